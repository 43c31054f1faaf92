/-
 Both disks at once: a call of each; what they tell.
-/
import Derived.Test.YtmkbhnholcaghaaGreatDoorJ34
import Derived.Test.YtmkbhnholcaghaaGreatDoorJ35
import Derived.Test.YtmkbhnholcaghaaGreatDoorJ38
import Derived.Test.YtmkbhnholcaghaaGreatDoorJ40
import Derived.Test.YtmkbhnholcaghaaGreatDoorJ43
import Derived.Test.YtmkbhnholcaghaaGreatDoorJ49
import Derived.Test.YtmkbhnholcaghaaGreatDoorJ50
open Array renaming length_toList->Qc
open Bool renaming and_eq_true->Ob,or_eq_false_iff->PN,and_eq_false_iff->Ts
open ByteArray renaming mk->O6,size_append->RP
open Classical renaming not_not->UH
open Go.Builtin renaming append_->N2,lenOf->VQ
open Go.IntKind renaming i64->NY,u64->OA,u8->OW
open Go.Proofs.Tryz renaming prog->NX
open Go.Value renaming int->Oe,string->Ps
open Go.Value.slice renaming injEq->Oi
open Int renaming toNat_natCast->N5,tdiv->OP,tmod->Pf
open List renaming getElem?_eq_some_iff->NZ,getElem?_eq_getElem->N0,mem_of_getElem?->N1,mem_append->N6,getElem?_map->Oa,mem_cons_of_mem->Oh,mem_singleton->Oj,map_cons->Ol,eq_nil_of_length_eq_zero->Om,mem_cons_self->Oq,getElem?_append_left->Ot,length_append->Oy,length_cons->OF,map_append->OG,getElem_mem->OH,getElem?_set->OK,length_map->OL,length_take->OO,drop_eq_getElem_cons->OQ,append_assoc->OU,mergeSort_perm->OX,getElem?_append_right->O1,getElem?_set_ne->O5,sum_cons->O8,getElem?_set_self->O9,mem_of_mem_take->Pb,getD->Pc,length_drop->Ph,map_set->Pn,getElem?_drop->Pw,length_singleton->PW,size_toArray->Qe,append_nil->Qi,mem_of_mem_drop->QE,getElem?_append->QF,map_nil->QI,drop_drop->QT,drop_length->Rp,drop_take->Vf,take_left'->V6
open Nat renaming le_refl->N3,zero_le->On,le_trans->Oo,mul_le_mul_right->OE,lt_or_ge->ON,le_succ->OR,mul_one->OY,succ_mul->O7,le_add_right->PV,lt_succ_self->Rn,add_zero->Rt,mod_eq_of_lt->Sf,mod_lt->SP,div_le_self->SV,sub_zero->Tr,le_of_eq->Ue,mul_comm->Ui,mul_left_comm->UJ,mul_le_mul_left->Vr,mul_add->VN,mul_assoc->Wu
open Ne renaming symm->Pt
open Option renaming isSome->TY
open Option.some renaming inj->Ow,injEq->OV
open UInt8 renaming toNat_inj->Qm
namespace Go.Proofs.YtmkbhnholcaghaaGreatDoor
open Go.MapKept
theorem wv {a b:Sl}{L:List (List UInt8)}{H:aa}{K:Bool->aa->Prop}(e:az EN dH H a L)(f:az EN dH H b L)(hl:L.length<4611686018427387904)(h:K true H):Jf.sp a b H K:=by
 refine Jf.of ?_;unfold Jf.vc;have j:=e.n (by decide);have l:=f.n (by decide);refine aC (by simp;omega) ?_;refine ar L.length (λk i H1=>i=(k:Int)/\H1=H) ⟨rfl,rfl⟩ ?_;rintro k _ H1 next hk ⟨rfl,rfl⟩ c
 refine ah (λg=>?_) (λ_=>h);have d:k<L.length:=by rw[j] at g;simpa using g
 refine re e d ?_;refine re f d ?_;refine aC (by simp) (c d _ _ ⟨aD k (by omega),rfl⟩)
def MO (G:Nat->Prop)(H:aa)(d m:Nat)(s:Dk):Prop:=∃a c,bo a H d s/\cj c H m s/\(∀b,a b->¬c b)/\∀b,G b↔a b\/c b
section
variable {Q:Nat->Prop}{A B:aa}{p dp m dm:Nat}{s1 s2:Pl}
end
theorem ao.cu {F:Nat->Prop}{H:aa}{p dp:Nat}{s:Pl}(h:ao F H p dp s):∃D,cj D H dp s.d/\(∀b,D b->F b)/\∀a H' d,cj a H' dp d->Step D a H H'->∃F',ao F' H' p dp (s.bE d)/\Step F F' H H':=by
 obtain⟨ll,zs,D,g,e⟩:=h;refine⟨D,g.cu,λb f=>(e b).2 (.inl f),λa H' d c i=>?_⟩;obtain⟨j,k⟩:=g.jN c i;exact j.out e k
theorem ao.head {F:Nat->Prop}{H:aa}{p dp:Nat}{s:Pl}(h:ao F H p dp s):∃ll:Sl,aj H p rv (dG dp ll s)/\ll.n=s.fs.length/\F p:=by
 obtain⟨ll,zs,D,g,a⟩:=h;exact⟨ll,g.pool.head,g.pool.n,(a p).2 (.inr (.inl rfl))⟩
structure lS (H0:aa)(F0:Nat->Prop)(k p dp:Nat)(sw sl:Sl)(F:Nat->Prop)(A:aa)(s:Pl)(w:RW):Prop where
 pool:ao F A p dp s
 wr:qW A k p w sw sl
 dis:∀b,F b->¬dr k sw sl b
 mod:Mod (λb=>F0 b\/b=k) H0 A
 own:∀b,F b->F0 b\/H0.size<=b
theorem HO {H:aa}{W:Int}{n:Nat}{K:Sl->aa->Prop}(F:0<=W)(G:n<1099511627776)(k:∀out H',az EB fw H' out (eR W n)->Ext H H'->(∀b,ag out b->H.size<=b)->K out H'):I5.sp W (n:Int) H K:=by
 refine I5.of ?_;unfold I5.vc;have f:OW.wrap W=((UInt8.ofNat W.toNat).toNat:Int):=by
  have:W=(W.toNat:Int):=by omega
  rw[this,ox];simp
 have c:OA.wrap (n:Int)=(n:Int):=Jl (by omega);rw[f,c];refine ax λH1 I l g=>?_;refine ax λJ z2 r2 e2=>?_;refine ve (w7 r2) (by simp) λr t o d=>?_;have v:=Et ((l.ext e2).ext d);have w:bP EB t r.a (cN (eK [(n:Int)])):=by
  unfold bP;rw[iF,j7 (kx _)];exact o.reads
 have h:r.n=(cN (eK [(n:Int)])).length:=by have:=o.1;rw[cc];simpa using this.symm
 have e:(cN (eK [(n:Int)])).length=8:=by rw[cc];simp[eK,eM]
 refine az.append jm (s:=Sl.mk (some ⟨H.size,0,none⟩) 1 1) (x:=r) v w h (by rw[e];simp) (by rw[e];simp) λz y C i _=>?_;have z3:=d.size;have a:∀b,ag (Sl.mk (some ⟨H.size,0,none⟩) 1 1) b->H.size<=b:=by
  rintro b ⟨ad,D,E⟩;cases D;subst E;exact N3 _
 refine k z y C ⟨by have:=((g.trans e2).trans d).size;have:=i.1.size;omega,λb j _=>(i.1.same b (by have:=((g.trans e2).trans d).size;omega) λu=>by have:=a b u;omega).trans (((g.trans e2).trans d).same b j id)⟩ λb j=>?_;rcases i.2 b j with q|q
 ·exact a b q
 ·omega
section
variable {H0:aa}{F0:Nat->Prop}{k p dp:Nat}{sw sl:Sl}{F:Nat->Prop}{A:aa}{s:Pl}{w:RW}
theorem lS.step {F':Nat->Prop}{c:aa}{s':Pl}(h:lS H0 F0 k p dp sw sl F A s w)(d:ao F' c p dp s')(S:Step F F' A c):lS H0 F0 k p dp sw sl F' c s' w:=by
 refine⟨d,h.wr.mod S.mod λb a q=>h.dis b q a,λb a q=>?_,h.mod.trans' S.mod λb a q=>?_,λb a=>?_⟩
 ·rcases S.own b a with r|r
  ·exact h.dis b r q
  ·have:=h.wr.lt b q;omega
 ·rcases h.own b q with r|r
  ·exact .inl r
  ·omega
 ·rcases S.own b a with r|r
  ·exact h.own b r
  ·right;have:=h.mod.size;omega
theorem lS.ext {a:aa}(h:lS H0 F0 k p dp sw sl F A s w)(e:Ext A a):lS H0 F0 k p dp sw sl F a s w:=h.step (h.pool.ext e) ⟨e.mod,λ_ q=>.inl q⟩
theorem lS.di {c:aa}{w':RW}{a:Sl}(h:lS H0 F0 k p dp sw sl F A s w)(m:Mod (λb=>b=k) A c)(hw:qW c k p w' a sl)(hs:∀b,ag a b->ag sw b):lS H0 F0 k p dp a sl F c s w':=by
 refine⟨h.pool.keep λb d hl=>m.same b hl λq=>h.dis b d (.inl q),hw,λb d q=>h.dis b d (q.imp_right λr=>r.imp_left (hs b)),h.mod.trans' m λb _ q=>.inr q,h.own⟩
set_option maxHeartbeats 1000000 in
theorem u6 {H:aa}{K:(Int×Int)->aa->Prop}(h:qW H k p w sw sl)(hp:ao F H p dp s)(hd:∀b,F b->¬dr k sw sl b)
  (T:w.rows<1099511627776) (U:0<=w.b.width) (hn:w.b.name.size<=9223372036854775807) (a7:s.d.aB<68716900000) (bs:s.next<1099511620000) (h0:0<=s.next) (V:s.Fit)
  (bx:(w.out s).1.d.aB<68716950000) (bA:(w.out s).1.next<1099511620000)
  (W:∀h hd,(Pl.leave (((w.out s).1.bt w.b.name 0).1.set h 2 hd) h).1.d.aB<68717000000) (a8:(w.out s).1.Fit) (C:∀h hd,(Pl.leave (((w.out s).1.bt w.b.name 0).1.set h 2 hd) h).1.Fit)
  (v:∀F' n H',ao F' H' p dp (w.close s).1->qW H' k p (w.close s).2.1 n sl->(∀b,F' b->¬dr k n sl b)->Step (λb=>F b\/dr k sw sl b) (λb=>F' b\/dr k n sl b) H H'->K (((w.close s).2.2.1:Int),(w.close s).2.2.2) H'):Gw.sp (aE k) H K:=by
 refine Gw.of ?_;unfold Gw.vc;simp only[al,aE];unfold RW.close at v;refine pR h.row ?_;have B0:lS H F k p dp sw sl F H s w:=⟨hp,h,hd,.refl _ _,λb q=>.inl q⟩
 -- the end of all
 have fin:∀(F':Nat->Prop) (n:Sl) (A:aa) (s':Pl) (w':RW),(∀b,ag n b->ag sw b)->lS H F k p dp n sl F' A s' w'->Step (λb=>F b\/dr k sw sl b) (λb=>F' b\/dr k n sl b) H A:=by
  intro F' n A s' w' hs B;refine⟨B.mod.mono λb _ q=>q.imp_right .inl,λb t=>?_⟩;rcases t with q|q|q|q
  ·rcases B.own b q with r|r
   ·exact .inl (.inl r)
   ·exact .inr r
  ·exact .inl (.inr (.inl q))
  ·exact .inl (.inr (.inr (.inl (hs b q))))
  ·exact .inl (.inr (.inr (.inr q)))
 by_cases P:w.b.ready≠0
 ·rw[if_pos P] at v;refine⟨λe A=>e=w.b.ready/\A=H,aC (by simpa using P) ⟨rfl,rfl⟩,?_⟩;rintro _ A ⟨rfl,rfl⟩;exact aP (by simpa using P) (v F sw A hp h hd (.refl _ _))
 rw[if_neg P] at v;obtain⟨M,bl⟩:=Rb.kX P;refine⟨λe A=>e=(w.out s).2.2/\∃R f,(∀b,ag f b->ag sw b)/\lS H F k p dp f sl R A (w.out s).1 (w.out s).2.1,?_,?_⟩
 ·refine aP (by simpa using P) ?_;refine Bb h hp hd M hn (by omega) (by omega) h0 V λR f H1 p1 h1 g m1 o=>?_;refine⟨rfl,R,f,g,p1,h1,?_,m1,o⟩;rintro b t (q|q|q)
  ·rcases o b t with r|r
   ·exact hd b r (.inl q)
   ·have:=h.lt b (.inl q);omega
  ·rcases o b t with r|r
   ·exact hd b r (.inr (.inl (g b q)))
   ·have:=h.lt b (.inr (.inl (g b q)));omega
  ·rcases o b t with r|r
   ·exact hd b r (.inr (.inr q))
   ·have:=h.lt b (.inr (.inr q));omega
 rintro _ H1 ⟨rfl,R,f,g,X⟩;have p1:=X.pool;have h1:=X.wr;have Y:0<=(w.out s).1.next:=by have:=p1.wf.tick;omega
 refine ah (λl=>?_) (λl=>?_)
 ·have S:(w.out s).2.2≠0:=by simpa using l
  rw[if_pos S] at v;exact v R f H1 p1 h1 X.dis (fin R f H1 _ _ g X)
 have S:¬(w.out s).2.2≠0:=by simpa using l
 rw[if_neg S] at v;have bb:(w.out s).2.1.b=w.b/\(w.out s).2.1.rows=w.rows:=by
  unfold RW.out at S ⊢;split
  ·exact⟨rfl,rfl⟩
  ·rename_i hq;rw[if_neg hq] at S;refine⟨?_,rfl⟩;show w.b.cq _=_;unfold Rb.cq;rw[if_neg S]
 obtain⟨Z,af⟩:=bb;rw[<-Z] at hn W U M C;rw[<-af] at T;generalize bB:(w.out s).1=s1 at*;generalize bC:(w.out s).2.1=a at*;refine aj.ld (c:=av) (i:=0) (x:=aE p) h1.row (bG.get 0 _ rfl) ?_;refine aj.ld (c:=aK) (i:=1) (x:=a.b.name) h1.row (bG.get 1 _ rfl) ?_;refine xb p1 hn (by omega) (by omega) λF2 H2 p2 S2=>?_;have B2:=X.step p2 S2;have E:(s1.bt a.b.name 0).1.next<=s1.next+1:=s1.lr Y (by omega)
 have N:a.head s1=if (s1.bt a.b.name 0).2.2≠0 then ((s1.bt a.b.name 0).1,(s1.bt a.b.name 0).2.2) else
   if (Pl.leave ((s1.bt a.b.name 0).1.set (s1.bt a.b.name 0).2.1 2 (eR a.b.width a.rows)) (s1.bt a.b.name 0).2.1).2≠0 then Pl.leave ((s1.bt a.b.name 0).1.set (s1.bt a.b.name 0).2.1 2 (eR a.b.width a.rows)) (s1.bt a.b.name 0).2.1
   else (Pl.leave ((s1.bt a.b.name 0).1.set (s1.bt a.b.name 0).2.1 2 (eR a.b.width a.rows)) (s1.bt a.b.name 0).2.1).1.flush a.b.name:=rfl
 have bd:=(s1.bt a.b.name 0).1.jz (s1.bt a.b.name 0).2.1 2 (eR a.b.width a.rows);have an:=W (s1.bt a.b.name 0).2.1 (eR a.b.width a.rows);have a1:=C (s1.bt a.b.name 0).2.1 (eR a.b.width a.rows);generalize (s1.bt a.b.name 0).1=s2 at*;generalize (s1.bt a.b.name 0).2.1=hh at*;generalize (s1.bt a.b.name 0).2.2=e2 at*
 -- what stands behind each cut
 obtain⟨D,u⟩:∃D:Pl×Int,D=if e2≠0 then (s2,e2) else s2.set hh 2 (eR a.b.width a.rows):=⟨_,rfl⟩
 obtain⟨X1,O⟩:∃X1:Pl×Int,X1=if e2≠0 then (s2,e2) else Pl.leave (s2.set hh 2 (eR a.b.width a.rows)) hh:=⟨_,rfl⟩
 have G:X1=Pl.leave D hh:=by
  rw[O,u];by_cases q:e2≠0
  ·rw[if_pos q,if_pos q];exact(if_neg q).symm
  ·rw[if_neg q,if_neg q]
 have a6:a.head s1=if X1.2≠0 then X1 else X1.1.flush a.b.name:=by
  rw[N,O];by_cases q:e2≠0
  ·rw[if_pos q,if_pos q,if_pos q]
  ·rw[if_neg q,if_neg q]
 have bn:D.1.next<=s1.next+1:=by
  rw[u];by_cases q:e2≠0
  ·rw[if_pos q];exact E
  ·rw[if_neg q,bd];exact E
 have I:X1.2=0->X1.1.d.aB<68717000000/\X1.1.Fit:=by
  rw[O];by_cases q:e2≠0
  ·rw[if_pos q];intro r;exact absurd r q
  ·rw[if_neg q];intro _;exact⟨an,a1⟩
 refine⟨λe A=>e=D.2/\∃F',lS H F k p dp f sl F' A D.1 a,?_,?_⟩
 ·refine ah (λl=>?_) (λl=>?_)
  ·have q:¬e2≠0:=by simpa using l
   rw[if_neg q] at u;refine⟨λA=>bG A k Ip p a.b [f.v,.int .i64 (a.n:Int),sl.v,.int .i64 (a.rows:Int)],B2.wr.row,?_⟩;refine aj.dv (c:=av) (i:=0) (x:=aE p) (cs:=λ_=>_) (λ_ q=>q) (λ_ _=>bG.get 0 _ rfl) ?_;refine aj.ld (c:=ab .i64) (i:=2) (x:=a.b.width) B2.wr.row (bG.get 2 _ rfl) ?_;refine aj.dv (c:=ab .i64) (i:=8) (x:=(a.rows:Int)) (cs:=λ_=>_) (λ_ q=>q) (λ_ _=>bG.tail (j:=3) rfl) ?_;refine HO U T λz A3 oz x3 fz=>?_;have J:=B2.ext x3;refine⟨J.wr.row,?_⟩;refine xo (kd:=2) J.pool (by omega) (bV oz) (λad ha r=>by have:=p2.lt _ r;have:=fz _ ⟨ad,ha,rfl⟩;omega) λF4 H4 p4 S4=>?_;rw[u];exact⟨rfl,F4,J.step p4 S4⟩
  ·have q:e2≠0:=by simpa using l
   rw[if_pos q] at u;rw[u];exact⟨rfl,F2,B2⟩
 rintro _ A3 ⟨rfl,F3,J⟩;refine⟨λe A=>e=X1.2/\∃F',lS H F k p dp f sl F' A X1.1 a,?_,?_⟩
 ·refine ah (λl=>?_) (λl=>?_)
  ·have q:D.2=0:=by simpa using l
   refine aj.ld (c:=av) (i:=0) (x:=aE p) J.wr.row (bG.get 0 _ rfl) ?_;refine j6 J.pool (by omega) λF4 H4 p4 S4=>?_;have e:X1=D.1.aY hh:=by rw[G];exact if_pos q
   rw[e];exact⟨rfl,F4,J.step p4 S4⟩
  ·have q:¬D.2=0:=by simpa using l
   have e:X1=D:=by rw[G];exact if_neg q
   rw[e];exact⟨rfl,F3,J⟩
 rintro _ A4 ⟨rfl,F4,B4⟩;refine⟨λe A=>e=(a.head s1).2/\∃F',lS H F k p dp f sl F' A (a.head s1).1 a,?_,?_⟩
 ·refine ah (λl=>?_) (λl=>?_)
  ·have q:X1.2=0:=by simpa using l
   refine aj.ld (c:=av) (i:=0) (x:=aE p) B4.wr.row (bG.get 0 _ rfl) ?_;refine aj.ld (c:=aK) (i:=1) (x:=a.b.name) B4.wr.row (bG.get 1 _ rfl) ?_;refine y8 B4.pool (I q).1 (I q).2 λL H5 p5 S5=>?_;have e:a.head s1=X1.1.flush a.b.name:=by rw[a6];exact if_neg (by simpa using q)
   rw[e];exact⟨rfl,L,B4.step p5 S5⟩
  ·have q:¬X1.2=0:=by simpa using l
   have e:a.head s1=X1:=by rw[a6];exact if_pos q
   rw[e];exact⟨rfl,F4,B4⟩
 rintro _ A5 ⟨rfl,L,y⟩;unfold RW.ends at v;refine ah (λl=>?_) (λl=>?_)
 ·have q:(a.head s1).2≠0:=by simpa using l
  rw[if_pos q] at v;refine pY y.wr.row M λA6 r6 m6 z6=>?_;have B6:lS H F k p dp f sl L A6 (a.head s1).1 {a with b:=a.b.cq (a.head s1).2}:=y.di m6 ⟨r6,y.wr.wait.mod m6 λb t q=>y.wr.jE (q▸t),y.wr.last.mod m6 λb t q=>y.wr.yR (q▸t)⟩ λ_ q=>q;exact v L f A6 B6.pool B6.wr B6.dis (fin L f A6 _ _ g B6)
 ·have q:¬(a.head s1).2≠0:=by simpa using l
  rw[if_neg q] at v;refine aj.st y.wr.row (i:=4) (by simp[dj]) rfl λA7 r7 m7 z7=>?_;rw[xy] at r7;have B7:lS H F k p dp f sl L A7 (a.head s1).1 a.stop:=y.di m7 ⟨r7,y.wr.wait.mod m7 λb t q=>y.wr.jE (q▸t),y.wr.last.mod m7 λb t q=>y.wr.yR (q▸t)⟩ λ_ q=>q;refine aj.ld (c:=ab .i64) (i:=8) (x:=(a.rows:Int)) B7.wr.row (bG.tail (j:=3) rfl) ?_;exact v L f A7 B7.pool B7.wr B7.dis (fin L f A7 _ _ g B7)
end
section
variable {F:Nat->Prop}{H:aa}{p dp:Nat}{s:Pl}{n:ByteArray}{W:Int}{K:(Option Addr×Int)->aa->Prop}
theorem xh (v:ao F H p dp s)(T:n.size<=9223372036854775807)(y:s.d.aB<68719460000)(U:s.next<1099511610000)(h0:0<=s.next)(g:s.Fit)
  (a:∀F' H',ao F' H' p dp (bh s n W).1->Step F F' H H'->(bh s n W).2.1=none->K (none,(bh s n W).2.2) H')
  (h:∀F' H' k w,ao F' H' p dp (bh s n W).1->Step F F' H H'->(bh s n W).2.1=some w->qW H' k p w bk bk->H.size<=k->¬F' k->K (aE k,(bh s n W).2.2) H'):IY.sp (aE p) n W H K:=by
 refine IY.of ?_;unfold IY.vc;simp only[al,aE];refine aC rfl ?_;refine eX ?_;by_cases r:aH W=0
 ·have em:bh s n W=(s,none,60):=if_pos r;rw[em] at a;exact aP (by simpa using r) (a F H v (.refl _ _) rfl)
 refine aC (by simpa using r) ?_;obtain⟨ll,z,_,V⟩:=v.head;refine aj.ld (c:=av) (i:=0) (x:=aE dp) z rfl ?_;obtain⟨D,d1,_,d3⟩:=v.cu;refine Ai d1 λX j d4 Y=>?_;obtain⟨C,p4,E⟩:=d3 X j _ d4 Y;have em:bh s n W=if (s.d.create n).2≠0 then (s.bE (s.d.create n).1,none,(s.d.create n).2)
   else if ((s.bE (s.d.create n).1).more n 0 []).2≠0 then (((s.bE (s.d.create n).1).more n 0 []).1,none,((s.bE (s.d.create n).1).more n 0 []).2)
   else (((s.bE (s.d.create n).1).more n 0 []).1,some (vP n W),0):=by unfold bh;rw[if_neg r]
 have G:(s.bE (s.d.create n).1).d.aB<68719470000:=by have:=s.d.lD n;show (s.d.create n).1.aB<_;omega
 have I:(s.bE (s.d.create n).1).Fit:=g.bE (s.d.j3 n);have Z:(s.bE (s.d.create n).1).next=s.next:=rfl
 generalize s.bE (s.d.create n).1=J at*;generalize (s.d.create n).2=L at*;refine ah (λe=>?_) (λe=>?_)
 ·have q:L≠0:=by simpa using e
  rw[if_pos q] at em;rw[em] at a;exact a C j p4 E rfl
 have q:¬L≠0:=by simpa using e
 rw[if_neg q] at em;refine ax λM z5 r5 N=>?_;have p5:=p4.ext N;have o:bG M j.size Ip p ⟨n,W,0,false⟩ [bk.v,.int .i64 ((0:Nat):Int),bk.v,.int .i64 ((0:Nat):Int)]:=r5;have f:¬C j.size:=λq=>by have:=p4.lt _ q;omega
 refine Bn (kd:=0) (sl:=Sl.mk none 0 0) (l:=[]) o p5 f ⟨rfl,Reads.nil _ _⟩ (by intro ad q;cases q) T G (by omega) (by omega) I λO P R t=>?_;have S:Step F C H M:=E.trans ⟨Ext.mod N,λb q=>.inl q⟩;have r6:=o.mod t.mod f;have z4:=E.mod.size;refine ah (λe=>?_) (λe=>?_)
 ·have q:(J.more n 0 []).2≠0:=by simpa using e
  rw[if_pos q] at em;rw[em] at a;exact a O P R (S.trans t) rfl
 ·have q:¬(J.more n 0 []).2≠0:=by simpa using e
  rw[if_neg q] at em;rw[em] at h;refine h O P j.size (vP n W) R (S.trans t) rfl ⟨r6,az.nil _ _ _,aM.nil _ _ _ _⟩ z4 λq=>?_;rcases t.own _ q with u|u
  ·exact f u
  ·omega
end
def jP:Option Nat->Int
 |none=>0
 |some k=>(k:Int)+1
structure AJ (H:aa)(k p:Nat)(r:RR)(si:Sl)(rs:List Sl):Prop where
 row:bG H k Lp p r.b [.int .i64 (r.rows:Int),.int .i64 (r.at_:Int),.int .i64 (jP r.page),si.v]
 ins:aO H 0 si rs r.ins
section
variable {H:aa}{k p:Nat}{r:RR}{si:Sl}{rs:List Sl}
theorem AJ.lt (h:AJ H k p r si rs):∀b,qG k si rs b->b<H.size:=by
 rintro b (rfl|q|⟨x,a,q⟩)
 ·exact aA h.row
 ·exact(h.ins.block.1 b q).2
 ·exact(h.ins.block.2 x a b q).2
theorem AJ.mod {G:Nat->Prop}{H':aa}(h:AJ H k p r si rs)(m:Mod G H H')(a:∀b,qG k si rs b->¬G b):AJ H' k p r si rs:=
 ⟨h.row.mod m (a k (.inl rfl)),h.ins.mod m (λb c=>a b (.inr (.inl c))) λx d b c=>a b (.inr (.inr ⟨x,d,c⟩))⟩
theorem AJ.CR (h:AJ H k p r si rs):¬ag si k:=λq=>by
 obtain⟨cur,a⟩:=h.ins.out.obj k q;exact absurd (aF a h.row) (by decide)
theorem AJ.js (h:AJ H k p r si rs):∀x∈rs,¬ag x k:=λx a q=>by
 obtain⟨l,hl⟩:=h.ins.rowAt a;obtain⟨cur,b⟩:=hl.obj k q;exact absurd (aF b h.row) (by decide)
end
structure kS (H0:aa)(F0 O0:Nat->Prop)(k p dp:Nat)(si:Sl)(rs:List Sl)(F:Nat->Prop)(A:aa)(s:Pl)(r:RR):Prop where
 pool:ao F A p dp s
 rd:AJ A k p r si rs
 dis:∀b,F b->¬qG k si rs b
 mod:Mod (λb=>F0 b\/b=k) H0 A
 own:∀b,F b->F0 b\/H0.size<=b
 own2:∀b,qG k si rs b->O0 b\/H0.size<=b
section
variable {H0:aa}{F0 O0:Nat->Prop}{k p dp:Nat}{si:Sl}{rs:List Sl}{F:Nat->Prop}{A:aa}{s:Pl}{r:RR}
theorem kS.step {F':Nat->Prop}{c:aa}{s':Pl}(h:kS H0 F0 O0 k p dp si rs F A s r)(d:ao F' c p dp s')(S:Step F F' A c):kS H0 F0 O0 k p dp si rs F' c s' r:=by
 refine⟨d,h.rd.mod S.mod λb a q=>h.dis b q a,λb a q=>?_,h.mod.trans' S.mod λb a q=>?_,λb a=>?_,h.own2⟩
 ·rcases S.own b a with r|r
  ·exact h.dis b r q
  ·have:=h.rd.lt b q;omega
 ·rcases h.own b q with r|r
  ·exact .inl r
  ·omega
 ·rcases S.own b a with r|r
  ·exact h.own b r
  ·right;have:=h.mod.size;omega
theorem kS.ext {a:aa}(h:kS H0 F0 O0 k p dp si rs F A s r)(e:Ext A a):kS H0 F0 O0 k p dp si rs F a s r:=h.step (h.pool.ext e) ⟨Ext.mod e,λ_ q=>.inl q⟩
theorem kS.di {e:aa}{r':RR}{a:Sl}{c:List Sl}(h:kS H0 F0 O0 k p dp si rs F A s r)(m:Mod (λb=>b=k) A e)(f:AJ e k p r' a c)(hs:∀b,qG k a c b->qG k si rs b\/(H0.size<=b/\¬F b)):kS H0 F0 O0 k p dp a c F e s r':=by
 refine⟨h.pool.keep λb d hl=>m.same b hl λq=>h.dis b d (.inl q),f,λb d q=>?_,h.mod.trans' m λb _ q=>.inr q,h.own,λb q=>?_⟩
 ·rcases hs b q with u|u
  ·exact h.dis b d u
  ·exact u.2 d
 ·rcases hs b q with u|u
  ·exact h.own2 b u
  ·exact .inr u.1
theorem kS.cq {e:Int}{K:Int->aa->Prop}(h:kS H0 F0 O0 k p dp si rs F A s r)(hw:r.b.wrong=0)(f:∀a,kS H0 F0 O0 k p dp si rs F a s {r with b:=r.b.cq e}->A.size<=a.size->K e a):Co.sp (aE k) e A K:=by
 refine pY h.rd.row hw λa r' d z'=>f a (h.di d ⟨r',h.rd.ins.mod d (λb c q=>h.rd.CR (q▸c)) λx g b c q=>h.rd.js x g (q▸c)⟩ λb q=>.inl q) (Ue z'.symm)
set_option maxHeartbeats 1000000 in
theorem EV {j:Nat}{K:Int->aa->Prop}(h:kS H0 F0 O0 k p dp si rs F A s r)(ok:r.Ok)(o:r.b.wrong=0)(hj:j*r.b.room<=r.rows)(a8:j<1099511627776)
  (hn:r.b.name.size<=9223372036854775807) (t:s.d.aB<68719470000) (P:s.next<1099511620000) (h0:0<=s.next)
  (d:∀F' R S T,kS H0 F0 O0 k p dp R S F' T (r.load s j).1 (r.load s j).2.1->A.size<=T.size->K (r.load s j).2.2 T):JN.sp (aE k) (j:Int) A K:=by
 refine JN.of ?_;unfold JN.vc;simp only[al,aE];obtain⟨D,bb⟩:=cV r.b;unfold RR.load at d;refine aj.ld (c:=ab .i64) (i:=7) (x:=jP r.page) h.rd.row (bG.tail (j:=2) rfl) ?_;rw[aD j (by omega)];have e1:((j+1:Nat):Int)=(j:Int)+1:=by omega
 by_cases M:r.page=some j
 ·rw[if_pos M] at d;refine aP (by rw[M];simp[jP]) ?_;exact d F si rs A h (N3 _)
 rw[if_neg M] at d;refine aC ?_ ?_
 ·cases e:r.page with
  |none=>simp only[jP,beq_eq_false_iff_ne,ne_eq];omega
  |some i=>
    have:i≠j:=λq=>M (by rw[e,q]);simp only[jP,beq_eq_false_iff_ne,ne_eq];omega
 refine aj.ld (c:=ab .i64) (i:=2) (x:=r.b.width) h.rd.row (bG.get 2 _ rfl) ?_;refine eX ?_;refine xN h.rd.row h.pool (λq=>h.dis k q (.inl rfl)) hn t P h0 λN A1 sl p1 E o1 f1 U _=>?_;rw[e1] at p1 o1 U ⊢;have G:=h.step p1 E;generalize (s.look r.b.name ((j:Int)+1)).1=s1 at*;generalize (s.look r.b.name ((j:Int)+1)).2.1=kd at*;generalize (s.look r.b.name ((j:Int)+1)).2.2.1=b at*;generalize (s.look r.b.name ((j:Int)+1)).2.2.2=e at*;refine ah (λa=>?_) (λa=>?_)
 ·have V:e≠0:=by simpa using a
  rw[if_pos V] at d;exact G.cq o λX v z2=>d N si rs X v (Oo E.mod.size z2)
 have V:¬e≠0:=by simpa using a
 rw[if_neg V] at d;refine aj.ld (c:=ab .i64) (i:=2) (x:=r.b.width) G.rd.row (bG.get 2 _ rfl) ?_;refine uQ (b:=eG b) o1 (by rw[kA];omega) λC y X ro e2=>?_;have v:=G.ext e2;have f:r.fits j kd b=true↔(kd=1/\pK (eG b) r.b.width=0/\(jk (eG b) r.b.width).length=min r.b.room (r.rows - j*r.b.room)):=by
  unfold RR.fits pK;simp only[Ob,beq_iff_eq,decide_eq_true_eq];cases eF (eG b) r.b.width<;>simp
 refine ah (λa=>?_) (λa=>?_)
 ·have z:¬r.fits j kd b=true:=λq=>by
   obtain⟨q1,q2,_⟩:=f.1 q;rw[q2,q1] at a;simp at a
  rw[if_neg z] at d;exact v.cq o λO Y z3=>d N si rs O Y (by have:=E.mod.size;have:=e2.size;omega)
 have I:kd=1/\pK (eG b) r.b.width=0:=by
  simp only[PN,bne_eq_false_iff_eq] at a;refine⟨?_,a.2⟩;have:kd.toNat=1:=by omega
  exact Qm.1 this
 refine aj.ld (c:=ab .i64) (i:=5) (x:=(r.rows:Int)) v.rd.row (bG.tail (j:=0) rfl) ?_;have Z:(j:Int)*(r.b.room:Int)=((j*r.b.room:Nat):Int):=by simp
 have af:NY.wrap ((j:Int)*aH r.b.width)=((j*r.b.room:Nat):Int):=by
  rw[D,Z];have:=ok.rows;exact wrap64 (by omega) (by omega)
 have an:NY.wrap ((r.rows:Int) - ((j*r.b.room:Nat):Int))=((r.rows - j*r.b.room:Nat):Int):=by
  have:=ok.rows;rw[wrap64 (by omega) (by omega)];omega
 rw[af,an,D,ro.n];have J:(if ((r.rows - j*r.b.room:Nat):Int)<(r.b.room:Int) then ((r.rows - j*r.b.room:Nat):Int) else (r.b.room:Int))=((min r.b.room (r.rows - j*r.b.room):Nat):Int):=by
  split<;>omega
 rw[J];refine ah (λa=>?_) (λa=>?_)
 ·have z:¬r.fits j kd b=true:=λq=>by
   obtain⟨_,_,q3⟩:=f.1 q;rw[q3] at a;simp at a
  rw[if_neg z] at d;exact v.cq o λO Y z3=>d N si rs O Y (by have:=E.mod.size;have:=e2.size;omega)
 have a1:((jk (eG b) r.b.width).length:Int)=((min r.b.room (r.rows - j*r.b.room):Nat):Int):=by simpa only[bne_eq_false_iff_eq] using a
 have hf:r.fits j kd b=true:=f.2 ⟨I.1,I.2,Int.ofNat.inj a1⟩;rw[if_pos hf] at d;refine aj.st v.rd.row (i:=7) (by simp[dj]) rfl λO r3 m3 z3=>?_;refine aj.st r3 (i:=8) (by simp[dj]) rfl λA4 r4 m4 z4=>?_;have m24:=m3.trans m4;have a6:bG A4 k Lp p r.b [.int .i64 (r.rows:Int),.int .i64 (r.at_:Int),.int .i64 (jP (some j)),C.v]:=by
  have e:((dj p r.b++[.int .i64 (r.rows:Int),.int .i64 (r.at_:Int),.int .i64 (jP r.page),si.v]).toArray.setIfInBounds 7 (.int .i64 ((j:Int)+1))).setIfInBounds 8 C.v=(dj p r.b++[.int .i64 (r.rows:Int),.int .i64 (r.at_:Int),.int .i64 (jP (some j)),C.v]).toArray:=by
   simp[dj,jP]
  rw[e] at r4;exact r4
 have g:=ro.block;have bd:k<A1.size:=aA G.rd.row;have bl:=G.mod.size;have a7:aO X 0 C y (jk (eG b) r.b.width):=⟨ro.out.wW,ro.len,λi x l h1 h2=>(ro.row i x l h1 h2).wW,ro.apart⟩;have rn:AJ A4 k p {r with page:=some j,ins:=jk (eG b) r.b.width} C y:=
  ⟨a6,a7.mod m24 (λb L q=>by have:=(g.1 b L).1;omega) λx hx b L q=>by have:=(g.2 x hx b L).1;omega⟩
 refine d N C y A4 (v.di m24 rn λb L=>?_) (by have:=E.mod.size;have:=e2.size;have:=m24.size;omega);rcases L with q|q|⟨x,hx,q⟩
 ·exact .inl (.inl q)
 ·have:=(g.1 b q).1;exact .inr ⟨by omega,λu=>by have:=p1.lt b u;omega⟩
 ·have:=(g.2 x hx b q).1;exact .inr ⟨by omega,λu=>by have:=p1.lt b u;omega⟩
theorem Ft {K:(Sl×Bool×Int)->aa->Prop}(h:kS H0 F0 O0 k p dp si rs F A s r)(ok:r.Ok)
  (hn:r.b.name.size<=9223372036854775807) (y:s.d.aB<68719470000) (M:s.next<1099511620000) (h0:0<=s.next)
  (u:∀F' E G J l,kS H0 F0 O0 k p dp E G F' J (r.next s).1 (r.next s).2.1->Ints .u64 J l (r.next s).2.2.1->(∀b,ag l b->qG k E G b/\b≠k)->A.size<=J.size->K (l,(r.next s).2.2.2.1,(r.next s).2.2.2.2) J):Ck.sp (aE k) A K:=by
 refine Ck.of ?_;unfold Ck.vc;simp only[al,aE];obtain⟨N,af⟩:=cV r.b;unfold RR.next at u;refine pR h.rd.row ?_;refine ah (λt=>?_) (λt=>?_)
 ·have L:r.b.ready≠0:=by simpa using t
  rw[if_pos L] at u;exact u F si rs A _ h ⟨rfl,Reads.nil _ _⟩ (λb q=>absurd q (aS b)) (N3 _)
 have L:¬r.b.ready≠0:=by simpa using t
 obtain⟨O,_⟩:=Rb.kX L;rw[if_neg L] at u;refine aj.ld (c:=ab .i64) (i:=6) (x:=(r.at_:Int)) h.rd.row (bG.tail (j:=1) rfl) ?_;refine aj.ld (c:=ab .i64) (i:=5) (x:=(r.rows:Int)) h.rd.row (bG.tail (j:=0) rfl) ?_;have Z:=ok.at_;refine ah (λt=>?_) (λt=>?_)
 ·have e1:r.at_=r.rows:=by
   have:(r.at_:Int)>=(r.rows:Int):=by simpa using t
   omega
  rw[if_pos e1] at u;exact u F si rs A _ h ⟨rfl,Reads.nil _ _⟩ (λb q=>absurd q (aS b)) (N3 _)
 have an:r.at_<r.rows:=by
  have:¬(r.at_:Int)>=(r.rows:Int):=by simpa using t
  omega
 rw[if_neg (by omega)] at u;refine aj.ld (c:=ab .i64) (i:=2) (x:=r.b.width) h.rd.row (bG.get 2 _ rfl) ?_;refine eX ?_;refine aj.ld (c:=ab .i64) (i:=6) (x:=(r.at_:Int)) h.rd.row (bG.tail (j:=1) rfl) ?_;have P:=ok.room;have a1:=ok.rows;rw[N];refine⟨by omega,?_⟩;have hdiv:NY.wrap (OP (r.at_:Int) (r.b.room:Int))=((r.at_/r.b.room:Nat):Int):=by
  have h1:OP (r.at_:Int) (r.b.room:Int)=((r.at_/r.b.room:Nat):Int):=rfl;have h2:=SV r.at_ r.b.room;rw[h1];generalize r.at_/r.b.room=q at h2 ⊢;exact wrap64 (by omega) (by omega)
 rw[hdiv];have a6:=Nat.div_mul_le_self r.at_ r.b.room;have a7:=SV r.at_ r.b.room;refine EV h ok O (by omega) (by omega) hn y M h0 λR d f A1 g hz=>?_;obtain⟨k1,k2,k3,k4,_,k6⟩:=RR.oL (s:=s) (j:=r.at_/r.b.room) ok;generalize (r.load s (r.at_/r.b.room)).1=s1 at*;generalize (r.load s (r.at_/r.b.room)).2.1=o at*;generalize (r.load s (r.at_/r.b.room)).2.2=e2 at*;refine ah (λt=>?_) (λt=>?_)
 ·have S:e2≠0:=by simpa using t
  rw[if_pos S] at u;exact u R d f A1 _ g ⟨rfl,Reads.nil _ _⟩ (λb q=>absurd q (aS b)) hz
 have S:¬e2≠0:=by simpa using t
 rw[if_neg S] at u;obtain⟨k7,k8⟩:=k6 (by omega);have hlen:=k1.page _ k8;rw[k7,k2] at hlen;have hm:=SP r.at_ P;have a8:=Nat.div_add_mod r.at_ r.b.room;have bb:r.b.room*(r.at_/r.b.room)=r.at_/r.b.room*r.b.room:=Ui _ _;have z:r.at_%r.b.room<o.ins.length:=by rw[hlen];omega
 refine aj.ld (c:=ak) (i:=8) (x:=d) g.rd.row (bG.tail (j:=3) rfl) ?_;refine aj.ld (c:=ab .i64) (i:=6) (x:=(o.at_:Int)) g.rd.row (bG.tail (j:=1) rfl) ?_;rw[k3];refine⟨by omega,?_⟩;have I:Pf (r.at_:Int) (r.b.room:Int)=((r.at_%r.b.room:Nat):Int):=rfl;rw[I];have C:r.at_%r.b.room<f.length:=by rw[g.rd.ins.len];exact z
 have T:∀{K:Addr->Sl->Prop},(∀a,K a f[r.at_%r.b.room])->ae d.a λa=>(0<=((r.at_%r.b.room:Nat):Int)/\((r.at_%r.b.room:Nat):Int)<(d.n:Int))/\Go.Proofs.YtmkbhnholcaghaaGreatDoor.ld ak A1 (a.add (((r.at_%r.b.room:Nat):Int).toNat*1)) λx=>K a x:=λ{K} hk=>by
  obtain⟨ad,U,t⟩:=g.rd.ins.out.reads.at (i:=r.at_%r.b.room) (by simpa using C);refine aX ad U ⟨⟨by omega,by rw[g.rd.ins.n];omega⟩,f[r.at_%r.b.room],?_,hk ad⟩;rw[N5,OY,t,List.getElem_map]
 refine T λ_=>?_;have ol:=g.rd.ins.row _ _ _ (N0 C) (N0 z);refine aj.ld (c:=ab .i64) (i:=6) (x:=(o.at_:Int)) g.rd.row (bG.tail (j:=1) rfl) ?_;refine aj.st g.rd.row (i:=6) (by simp[dj]) rfl λV X m3 z3=>?_;rw[k3,aD r.at_ (by omega)] at X;have Y:bG V k Lp p o.b [.int .i64 (o.rows:Int),.int .i64 ((r.at_+1:Nat):Int),.int .i64 (jP o.page),d.v]:=by
  have e:(dj p o.b++[.int .i64 (o.rows:Int),.int .i64 (r.at_:Int),.int .i64 (jP o.page),d.v]).toArray.setIfInBounds 6 (.int .i64 ((r.at_+1:Nat):Int))=(dj p o.b++[.int .i64 (o.rows:Int),.int .i64 ((r.at_+1:Nat):Int),.int .i64 (jP o.page),d.v]).toArray:=by
   simp[dj]
  rw[e] at X;exact X
 have B3:kS H0 F0 O0 k p dp d f R V s1 {o with at_:=r.at_+1}:=g.di m3 ⟨Y,g.rd.ins.mod m3 (λb D q=>g.rd.CR (q▸D)) λx hx b D q=>g.rd.js x hx (q▸D)⟩ λb q=>.inl q;have v:f[r.at_%r.b.room]∈f:=OH C;refine u R d f V _ B3 ?_ (λb D=>⟨.inr (.inr ⟨_,v,D⟩),λq=>g.rd.js _ v (q▸D)⟩) (by omega);have eg:o.ins.getD (r.at_%r.b.room) []=o.ins[r.at_%r.b.room]:=by rw[Pc,N0 z];rfl
 rw[eg];exact(aM.ints ol).mod m3 λad U q=>g.rd.js _ v (q▸⟨ad,U,rfl⟩)
end
theorem CE {n room:Nat}{H:aa}{K:Int->aa->Prop}(a:0<room/\room<=504)(e:n<=528482304)(b:K (da n room:Int) H):JT.sp (n:Int) (room:Int) H K:=by
 refine JT.of ?_;unfold JT.vc;refine⟨by omega,?_⟩;have c:NY.wrap ((n:Int)+(room:Int))=((n+room:Nat):Int):=by rw[wrap64 (by omega) (by omega)];omega
 have e2:NY.wrap (((n+room:Nat):Int) - 1)=((n+room - 1:Nat):Int):=by rw[wrap64 (by omega) (by omega)];omega
 have d:OP ((n+room - 1:Nat):Int) (room:Int)=((da n room:Nat):Int):=rfl;rw[c,e2,d];have:=mM (n:=n) a.1;rw[wrap64 (by omega) (by omega)];exact b
section
variable {F:Nat->Prop}{H:aa}{p dp:Nat}{s:Pl}{n:ByteArray}{W:Int}{K:(Option Addr×Int)->aa->Prop}
set_option maxHeartbeats 1000000 in
theorem xF (Z:ao F H p dp s)(hn:n.size<=9223372036854775807)(af:s.d.aB<68719460000)(an:s.next<1099511620000)(h0:0<=s.next)(C:(s.look n 0).1.d.aB<68719476736)
  (f:∀F' H',ao F' H' p dp (rnOpen s n W).1->Step F F' H H'->(rnOpen s n W).2.1=none->K (none,(rnOpen s n W).2.2) H')
  (l:∀F' H' k r,ao F' H' p dp (rnOpen s n W).1->Step F F' H H'->(rnOpen s n W).2.1=some r->AJ H' k p r bk []->H.size<=k->¬F' k->K (aE k,(rnOpen s n W).2.2) H'):Hy.sp (aE p) n W H K:=by
 refine Hy.of ?_;unfold Hy.vc;simp only[al,aE];refine aC rfl ?_;refine eX ?_;by_cases X:aH W=0
 ·have em:rnOpen s n W=(s,none,60):=if_pos X;rw[em] at f;exact aP (by simpa using X) (f F H Z (.refl _ _) rfl)
 refine aC (by simpa using X) ?_;refine ax λH3 z3 r3 e3=>?_;have p3:=Z.ext e3;have S3:Step F F H H3:=⟨Ext.mod e3,λb q=>.inl q⟩;have hk:¬F H.size:=λq=>by have:=Z.lt _ q;omega
 have b3:bG H3 H.size Lp p ⟨n,W,0,false⟩ [.int .i64 ((0:Nat):Int),.int .i64 ((0:Nat):Int),.int .i64 (jP none),bk.v]:=r3;refine xN (g:=0) (b:=⟨n,W,0,false⟩) b3 p3 hk hn (by omega) an h0 λv H4 sl p4 S4 y f4 a1 c4=>?_;have em:rnOpen s n W=if (s.look n 0).2.2.2≠0 then ((s.look n 0).1,none,(s.look n 0).2.2.2)
  else if ¬((s.look n 0).2.1=2/\(s.look n 0).2.2.1.length=9/\(((s.look n 0).2.2.1.getD 0 0).toNat:Int)=W) then ((s.look n 0).1,none,280)
  else if ((s.look n 0).1.d.len n).2≠0 then ((s.look n 0).1,none,((s.look n 0).1.d.len n).2)
  else if bY (eG ((s.look n 0).2.2.1.drop 1))<=528482304/\((s.look n 0).1.d.len n).1=1+da (bY (eG ((s.look n 0).2.2.1.drop 1))).toNat (aH W).toNat then
   ((s.look n 0).1,some ⟨⟨n,W,0,false⟩,(bY (eG ((s.look n 0).2.2.1.drop 1))).toNat,0,none,[]⟩,0)
  else ((s.look n 0).1,none,280):=by unfold rnOpen;rw[if_neg X]
 rw[em] at f l;simp only at p4 y a1 ⊢;generalize (s.look n 0).1=s4 at*;generalize (s.look n 0).2.1=kd at*;generalize (s.look n 0).2.2.1=b at*;generalize (s.look n 0).2.2.2=e at*;have Y:=S3.trans S4;have b4:=b3.mod S4.mod hk;have a6:=y.n;refine ah (λh=>?_) (λh=>?_)
 ·have e0:e≠0:=by simpa using h
  rw[if_pos e0] at f;exact f v H4 p4 Y rfl
 have e0:¬e≠0:=by simpa using h
 rw[if_neg e0] at f l;refine ah (λh=>?_) (λh=>?_)
 ·have o:¬(kd=2/\b.length=9/\((b.getD 0 0).toNat:Int)=W):=by
   rintro⟨q1,q2,_⟩;rw[a6,q2,q1] at h;simp at h
  rw[if_pos o] at f;exact f v H4 p4 Y rfl
 have a7:kd=2/\b.length=9:=by
  simp only[PN,bne_eq_false_iff_eq] at h;refine⟨Qm.1 (by have:=h.1;show kd.toNat=2;omega),by have:=h.2;omega⟩
 obtain⟨a8,bb⟩:=a7;refine dX y (i:=0) (by omega) rfl λad ha=>?_;have bd:NY.wrap ((b[0]'(by omega)).toNat:Int)=((b.getD 0 0).toNat:Int):=by
  have:b.getD 0 0=b[0]'(by omega):=by rw[Pc,N0 (by omega)];rfl
  have b1:=(b[0]'(by omega)).toNat_lt;rw[this,wrap64 (by omega) (by omega)]
 rw[bd];refine ah (λh=>?_) (λh=>?_)
 ·have o:¬(kd=2/\b.length=9/\((b.getD 0 0).toNat:Int)=W):=by
   rintro⟨_,_,q3⟩;rw[q3] at h;simp at h
  rw[if_pos o] at f;exact f v H4 p4 Y rfl
 have P:¬¬(kd=2/\b.length=9/\((b.getD 0 0).toNat:Int)=W):=λq=>q ⟨a8,bb,by simpa only[bne_eq_false_iff_eq] using h⟩;rw[if_neg P] at f l;refine⟨by omega,?_⟩;have hd:=y.drop c4 1;have bl:(eG (b.drop 1)).length=8:=by rw[kA,Ph];omega
 refine uQ (b:=eG (b.drop 1)) hd (by omega) λsr rs H5 ro E=>?_;rw[wQ bl] at ro;have p5:=p4.ext E;have T5:Step F v H H5:=Y.trans ⟨Ext.mod E,λb q=>.inl q⟩;have b5:=b4.ext E;obtain⟨ll,bn,_,b2⟩:=p5.head;refine aj.ld (c:=av) (i:=0) (x:=aE dp) bn rfl ?_;obtain⟨D,d1,_,_⟩:=p5.cu;refine mX d1 C λz L=>?_;have R:=p5.ext L;have M:Step F v H z:=T5.trans ⟨Ext.mod L,λb q=>.inl q⟩;have b6:=b5.ext L;have bs:Rows z sr [[bY (eG (b.drop 1))]]:=(ro.mod L (λ_ _ u=>u) λ_ _ _ _ u=>u).rows;have hm:=Dk.jV d1.wf n;generalize (s4.d.len n).1=N at*;generalize (s4.d.len n).2=e5 at*;refine ah (λh=>?_) (λh=>?_)
 ·have L:e5≠0:=by simpa using h
  rw[if_pos L] at f;exact f v z R M rfl
 have bx:¬e5≠0:=by simpa using h
 rw[if_neg bx] at f l;have G:∀{K:Addr->Sl->Addr->Int->Prop},(∀a x c,K a x c (bY (eG (b.drop 1))))->ae sr.a λS=>(0<=(0:Int)/\(0:Int)<(sr.n:Int))/\ld ak z (S.add ((0:Int).toNat*1)) λ(I:Sl)=>ae I.a λT=>(0<=(0:Int)/\(0:Int)<(I.n:Int))/\ld (ab .u64) z (T.add ((0:Int).toNat*1)) λ(bA:Int)=>K S I T bA:=λ{K} hk=>by
  refine bs.ld (i:=0) (by simp) λbB x1 b9 bC=>?_;have U:Ints .u64 z x1 [bY (eG (b.drop 1))]:=bC;exact jw U (i:=0) (j:=0) rfl (by simp) λbD cb=>hk bB x1 bD
 have ck:=im (eG (b.drop 1));generalize bY (eG (b.drop 1))=w at*;have J:=cV ⟨n,W,0,false⟩;refine G λ_ _ _=>?_;refine ah (λh=>?_) (λh=>?_)
 ·have hw:¬w<=528482304:=by
   have:w>528482304:=by simpa using h
   omega
  rw[if_neg (λq=>hw q.1)] at f;exact f v z R M rfl
 ·have hw:w<=528482304:=by
   have:¬w>528482304:=by simpa using h
   omega
  refine G λ_ _ _=>?_;obtain⟨wn,rfl⟩:∃wn:Nat,w=(wn:Int):=⟨w.toNat,by omega⟩;rw[show NY.wrap (wn:Int)=(wn:Int) from wrap64 (by omega) (by omega)];have t:0<(Rb.room ⟨n,W,0,false⟩):=by
   have:=J.1;simp only at this;omega
  have bM:aH W=((aH W).toNat:Int):=J.1;rw[bM];refine CE ⟨t,J.2⟩ (by omega) ?_;have bO:=mM (n:=wn) t;have b0:Rb.room ⟨n,W,0,false⟩=(aH W).toNat:=rfl;rw[b0] at bO;have w2:NY.wrap (1+(da wn (aH W).toNat:Int))=((1+da wn (aH W).toNat:Nat):Int):=by
   rw[wrap64 (by omega) (by omega)];omega
  rw[w2];rw[N5] at f l;refine ah (λh=>?_) (λh=>?_)
  ·have e7:¬(((wn:Nat):Int)<=528482304/\N=1+da wn (aH W).toNat):=λq=>by
    rw[q.2] at h;simp at h
   rw[if_neg e7] at f;exact f v z R M rfl
  ·have e7:N=1+da wn (aH W).toNat:=by
    have:(N:Int)=((1+da wn (aH W).toNat:Nat):Int):=by simpa using h
    omega
   rw[if_pos ⟨hw,e7⟩] at l;refine G λ_ _ _=>?_;rw[show NY.wrap (wn:Int)=(wn:Int) from wrap64 (by omega) (by omega)];refine aj.st b6 (i:=5) (by simp[dj]) rfl λH7 r7 m7 z7=>?_;have V:¬v H.size:=λq=>by
    rcases S4.own _ q with u|u
    ·exact hk u
    ·omega
   have:=M.mod.size;refine l v H7 H.size ⟨⟨n,W,0,false⟩,wn,0,none,[]⟩ (R.keep λb O _=>m7.same b (R.lt b O) λq=>V (q▸O)) ⟨⟨by omega,λb O hn=>(m7.same b (by omega) λq=>by omega).trans (M.mod.same b O hn)⟩,λb O=>M.own b O⟩ rfl ⟨r7,aO.nil _ _⟩ (N3 _) V
end
section
variable {H0:aa}{F0 O0:Nat->Prop}{k p dp:Nat}{si:Sl}{rs:List Sl}{F:Nat->Prop}{A:aa}{s:Pl}{r:RR}{low:Sl}{ll:List Int}
end
structure px (H0:aa)(F0:Nat->Prop)(col:Nat->Nat)(p dp:Nat)(F:Nat->Prop)(A:aa)(s:Pl)(xs:List mZ)(l:Sl):Prop where
 pool:ao F A p dp s
 rds:∀(i:Nat) (x:mZ),xs[i]?=some x->AJ A x.k p x.r x.si x.srs
 oks:∀x∈xs,x.r.Ok/\x.r.b.name.size<=9223372036854775807
 list:az dK LZ A l (xs.map (·.k))
 cF:∀b,F b->col b=0/\(F0 b\/H0.size<=b)
 cR:∀(i:Nat) (x:mZ),xs[i]?=some x->∀b,x.own b->col b=5+i/\H0.size<=b
 cL:∀b,ag l b->col b=4/\H0.size<=b
 mod:Mod F0 H0 A
section
variable {H0 A:aa}{F0 F:Nat->Prop}{col:Nat->Nat}{p dp:Nat}{s:Pl}{xs:List mZ}{l:Sl}
theorem px.step (h:px H0 F0 col p dp F A s xs l):Step F0 F H0 A:=⟨h.mod,λb a=>(h.cF b a).2⟩
theorem px.lt (h:px H0 F0 col p dp F A s xs l){i:Nat}{x:mZ}(a:xs[i]?=some x):∀b,x.own b->b<A.size:=(h.rds i x a).lt
theorem px.rV {G:Nat->Prop}{F':Nat->Prop}{B:aa}{s':Pl}{col':Nat->Nat}(h:px H0 F0 col p dp F A s xs l)(g:ao F' B p dp s')(m:Mod G A B)(e:∀b,b<A.size->G b->col b<4)(d:∀b,b<H0.size->G b->F0 b)
  (j:∀b,F' b->col' b=0/\(F0 b\/H0.size<=b)) (f:∀b,b<A.size->4<=col b->col' b=col b):px H0 F0 col' p dp F' B s' xs l:=by
 refine⟨g,λi x c=>(h.rds i x c).mod m λb a q=>?_,h.oks,h.list.mod m λb a q=>?_,j,λi x c b a=>?_,λb a=>?_,h.mod.trans' m d⟩
 ·have:=e b (h.lt c b a) q;have:=(h.cR i x c b a).1;omega
 ·have:=e b (h.list.lt b a) q;have:=(h.cL b a).1;omega
 ·have:=h.cR i x c b a;rw[f b (h.lt c b a) (by omega)];exact this
 ·have:=h.cL b a;rw[f b (h.list.lt b a) (by omega)];exact this
theorem px.next {K:(Sl×Bool×Int)->aa->Prop}{i:Nat}{x:mZ}{u v:Nat}(h:px H0 F0 col p dp F A s xs l)(C:xs[i]?=some x)(b:Bd s u v)(hu:u<1000000000000)(P:v<68719470000)
  (M:∀F' B col' G row,px H0 F0 col' p dp F' B (x.r.next s).1 (xs.set i G) l->G.k=x.k->G.r=(x.r.next s).2.1->Ints .u64 B row (x.r.next s).2.2.1->(∀b,ag row b->G.own b/\b≠x.k)->(∀b,b<A.size->col' b=col b)->Mod (λb=>F b\/b=x.k) A B->
   K (row,(x.r.next s).2.2.2.1,(x.r.next s).2.2.2.2) B):Ck.sp (aE x.k) A K:=by
 have I:=N1 C;obtain⟨ok,L⟩:=h.oks x I;have hi:=(NZ.1 C).1;have dis:∀b,F b->¬qG x.k x.si x.srs b:=λb a q=>by
  have:=(h.cF b a).1;have:=(h.cR i x C b q).1;omega
 have J:=b.lo;have N:=b.hi;have O:=b.aB;refine Ft (⟨h.pool,h.rds i x C,dis,.refl _ _,λ_ q=>.inl q,λ_ q=>.inl q⟩:kS A F (qG x.k x.si x.srs) x.k p dp x.si x.srs F A s x.r) ok L (by omega) (by omega) J λF' D t B row g o f R=>?_;obtain⟨col',c1,c2⟩:=ia col A.size F' (qG x.k D t) (λ_=>False) 0 (5+i) 3 g.dis (λb q r=>r) (λb q r=>r);have E:=RR.fW ok s;have z:=g.mod.size;have keep:∀(j:Nat) (y:mZ),j≠i->xs[j]?=some y->∀b,y.own b->¬(F b\/b=x.k):=λj y S d b a q=>by
  have c:=(h.cR j y d b a).1;rcases q with q|q
  ·have:=(h.cF b q).1;omega
  ·have:=(h.cR i x C b (by subst q;exact .inl rfl)).1;omega
 refine M F' B col' ⟨x.k,(x.r.next s).2.1,D,t⟩ row ⟨g.pool,λj y d=>?_,λy d=>?_,?_,λb a=>?_,λj y d b a=>?_,λb a=>?_,?_⟩ rfl rfl o (λb a=>f b a) c1 g.mod
 ·by_cases q:j=i
  ·subst q;rw[O9 hi] at d;cases d;exact g.rd
  ·rw[O5 (Pt q)] at d;exact(h.rds j y d).mod g.mod (keep j y q d)
 ·rcases List.mem_or_eq_of_mem_set d with q|q
  ·exact h.oks y q
  ·subst q;exact⟨E.1,by show (x.r.next s).2.1.b.name.size<=_;rw[E.2.1];exact L⟩
 ·have e:(xs.set i ⟨x.k,(x.r.next s).2.1,D,t⟩).map (·.k)=xs.map (·.k):=by
   rw[Pn];apply List.ext_getElem?;intro j;rw[OK];split
   ·rename_i q;subst q;rw[Oa,C];simp[hi]
   ·rfl
  rw[e];exact h.list.mod g.mod λb a q=>by
   have c:=(h.cL b a).1;rcases q with q|q
   ·have:=(h.cF b q).1;omega
   ·have:=(h.cR i x C b (by subst q;exact .inl rfl)).1;omega
 ·rcases g.own b a with q|q
  ·rw[c1 b (h.pool.lt b q)];exact h.cF b q
  ·exact⟨(c2 b q).1 a,.inr (by have:=h.mod.size;omega)⟩
 ·by_cases q:j=i
  ·subst q;rw[O9 hi] at d;cases d;rcases g.own2 b a with q|q
   ·rw[c1 b (h.lt C b q)];exact h.cR j x C b q
   ·exact⟨(c2 b q).2.1 a,by have:=h.mod.size;omega⟩
  ·rw[O5 (Pt q)] at d;rw[c1 b (h.lt d b a)];exact h.cR j y d b a
 ·rw[c1 b (h.list.lt b a)];exact h.cL b a
 ·refine h.mod.trans' g.mod λb a q=>?_;rcases q with q|q
  ·exact(h.cF b q).2.resolve_right (by omega)
  ·have:=(h.cR i x C b (by subst q;exact .inl rfl)).2;omega
end
def GB:eH Sl:=⟨1,λx=>[x.v],λ_=>rfl,λx u hu=>by simp at hu;subst hu;rfl⟩
def KS:eH Bool:=⟨1,λx=>[.bool x],λ_=>rfl,λx u hu=>by simp at hu;subst hu;rfl⟩
theorem Mp:qY NX gd dZ 1 24:=eJ (by kernel_rfl)
theorem Mt:qY NX K2 K9 1 1:=eJ (by kernel_rfl)
theorem L9:qY NX Ld LZ 1 8:=eJ (by kernel_rfl)
structure ua (H0:aa)(F0:Nat->Prop)(col:Nat->Nat)(p dp:Nat)(F:Nat->Prop)(A:aa)(s:Pl)(xs:List mZ)(l:Sl)(kw:Nat)(w:RW)(sw sl hsl:Sl)(hd:List Sl)(isl:Sl)(isb:List Bool)(hs:List (Option (List Int))):Prop where
 rds:px H0 F0 col p dp F A s xs l
 wr:qW A kw p w sw sl
 cW:∀b,dr kw sw sl b->col b=2/\(F0 b\/H0.size<=b)
 hO:az GB dZ A hsl hd
 iO:az KS K9 A isl isb
 cH:∀b,(ag hsl b\/ag isl b)->col b=1/\H0.size<=b
 row:∀(i:Nat) (y:List Int),hs[i]?=some (some y)->∃r x,hd[i]?=some r/\xs[i]?=some x/\Ints .u64 A r y/\(∀b,ag r b->x.own b/\b≠x.k)/\y.length<=16
section
variable {H0 A B:aa}{F0 F F':Nat->Prop}{col col':Nat->Nat}{p dp:Nat}{s s':Pl}{xs:List mZ}{l:Sl}{kw:Nat}{w:RW}{sw sl hsl isl:Sl}{hd:List Sl}{isb:List Bool}{hs:List (Option (List Int))}
theorem ua.Mz (h:ua H0 F0 col p dp F A s xs l kw w sw sl hsl hd isl isb hs):∀b,dr kw sw sl b->b<A.size:=h.wr.lt
theorem ua.Hs (h:ua H0 F0 col p dp F A s xs l kw w sw sl hsl hd isl isb hs){i:Nat}{x:mZ}(a:xs[i]?=some x){b:Nat}(c:x.own b):col b=5+i/\b<A.size:=⟨(h.rds.cR i x a b c).1,h.rds.lt a b c⟩
set_option maxHeartbeats 1000000 in
theorem ua.add {K:Int->aa->Prop}{row:Sl}{y:List Int}{to:ByteArray}{c u v:Nat}(h:ua H0 F0 col p dp F A s xs l kw w sw sl hsl hd isl isb hs)(ok:lT w to c)(Y:c<1000000000000)(t:to.size<=9223372036854775807)(b:Bd s u v)(hu:u<1000000000000)(Z:v<68719460000)(hy:y.length<=16)
  (g:Ints .u64 A row y) (j:∀ad,row.a=some ad->¬dr kw sw sl ad.block)
  (I:∀F' B col' e f,ua H0 F0 col' p dp F' B (w.add s y).1 xs l kw (w.add s y).2.1 e f hsl hd isl isb hs->A.size<=B.size->K (w.add s y).2.2 B):Be.sp (aE kw) row A K:=by
 have dis:∀b,F b->¬dr kw sw sl b:=λb d q=>by
  have:=(h.rds.cF b d).1;have:=(h.cW b q).1;omega
 have z:=b.lo;have J:=b.hi;have L:=b.aB;have o1:=ok.wait;have o2:=ok.n;have o3:=ok.rows;refine BE h.wr h.rds.pool dis g (λad C _=>j ad C) (λ_=>by omega) (by omega) (by omega) (by omega) (by rw[ok.name];exact t) (by omega) (by omega) z b.fit λF' e f B M N O S=>?_;have o:∃col':Nat->Nat,(∀b,F' b->col' b=0)/\(∀b,dr kw e f b->col' b=2)/\∀b,¬F' b->¬dr kw e f b->col' b=col b:=by
  classical
  refine⟨λb=>if F' b then 0 else if dr kw e f b then 2 else col b,λb d=>if_pos d,λb d=>?_,λb h1 P=>?_⟩
  ·show (if F' b then _ else _)=_;rw[if_neg λq=>O b q d,if_pos d]
  ·show (if F' b then _ else _)=_;rw[if_neg h1,if_neg P]
 obtain⟨col',c1,c2,R⟩:=o;have z0:=h.rds.mod.size;have old:∀b,b<A.size->F' b\/dr kw e f b->col b=0\/col b=2:=λb d q=>by
  rcases (S.own b q).resolve_right (by omega) with u|u
  ·exact .inl (h.rds.cF b u).1
  ·exact .inr (h.cW b u).1
 have same:∀b,b<A.size->col b≠0->col b≠2->col' b=col b:=λb d n0 n2=>R b (λq=>by rcases old b d (.inl q) with u|u<;>omega) λq=>by rcases old b d (.inr q) with u|u<;>omega
 have base:∀b,F' b\/dr kw e f b->F0 b\/H0.size<=b:=λb q=>by
  rcases S.own b q with (u|u)|u
  ·exact(h.rds.cF b u).2
  ·exact(h.cW b u).2
  ·exact .inr (by omega)
 have D:∀b,b<A.size->(F b\/dr kw sw sl b)->col b=0\/col b=2:=λb _ q=>q.imp (λu=>(h.rds.cF b u).1) λu=>(h.cW b u).1;have E:∀b,(ag hsl b\/ag isl b)->¬(F b\/dr kw sw sl b):=λb d q=>by
  have a:=(h.cH b d).1;have lt:b<A.size:=d.elim (λu=>h.hO.lt b u) λu=>h.iO.lt b u;have:=D b lt q;omega
 refine I F' B col' e f ⟨h.rds.rV M S.mod (λb d q=>by have:=D b d q;omega) (λb d q=>?_) (λb d=>⟨c1 b d,base b (.inl d)⟩) (λb d q=>same b d (by omega) (by omega)),N,λb d=>⟨c2 b d,base b (.inr d)⟩,h.hO.mod S.mod λb d=>E b (.inl d),h.iO.mod S.mod λb d=>E b (.inr d),λb d=>?_,λi T hi=>?_⟩ S.mod.size
 ·rcases q with u|u
  ·exact(h.rds.cF b u).2.resolve_right (by omega)
  ·exact(h.cW b u).2.resolve_right (by omega)
 ·have a:=h.cH b d;have lt:b<A.size:=d.elim (λu=>h.hO.lt b u) λu=>h.iO.lt b u;rw[same b lt (by omega) (by omega)];exact a
 ·obtain⟨r,x,U,e2,V,G,X⟩:=h.row i T hi;exact⟨r,x,U,e2,V.mod S.mod λad C q=>by
   obtain⟨a1,a2⟩:=h.Hs e2 (G _ ⟨ad,C,rfl⟩).1;have:=D _ a2 q;omega,G,X⟩
set_option maxHeartbeats 1000000 in
theorem ua.next {K:(Sl×Bool×Int)->aa->Prop}{i:Nat}{x:mZ}{u v:Nat}(h:ua H0 F0 col p dp F A s xs l kw w sw sl hsl hd isl isb hs)(o:xs[i]?=some x)(b:Bd s u v)(hu:u<1000000000000)(E:v<68719470000)
  (G:∀F' B col' e row,ua H0 F0 col' p dp F' B (x.r.next s).1 (xs.set i e) l kw w sw sl hsl hd isl isb (hs.set i none)->e.r=(x.r.next s).2.1->Ints .u64 B row (x.r.next s).2.2.1->(∀b,ag row b->e.own b/\b≠e.k)->A.size<=B.size->K (row,(x.r.next s).2.2.2.1,(x.r.next s).2.2.2.2) B):Ck.sp (aE x.k) A K:=by
 refine h.rds.next o b hu E λF' B col' e row I J L M t C f=>?_;have c:∀b,F b\/b=x.k->col b=0\/col b=5+i:=λb q=>by
  rcases q with q|q
  ·exact .inl (h.rds.cF b q).1
  ·exact .inr (h.rds.cR i x o b (by subst q;exact .inl rfl)).1
 have z:=f.size;refine G F' B col' e row ⟨I,h.wr.mod f λb a q=>?_,λb a=>?_,h.hO.mod f λb a q=>?_,h.iO.mod f λb a q=>?_,λb a=>?_,λj y g=>?_⟩ L M (λb a=>⟨(t b a).1,by rw[J];exact(t b a).2⟩) z
 ·have:=c b q;have:=(h.cW b a).1;omega
 ·rw[C b (h.Mz b a)];exact h.cW b a
 ·have:=c b q;have:=(h.cH b (.inl a)).1;omega
 ·have:=c b q;have:=(h.cH b (.inr a)).1;omega
 ·have lt:b<A.size:=a.elim (λu=>h.hO.lt b u) λu=>h.iO.lt b u;rw[C b lt];exact h.cH b a
 ·by_cases d:j=i
  ·subst d;rw[OK] at g;simp at g
  ·rw[O5 (Pt d)] at g;obtain⟨r,N,O,e2,P,D,R⟩:=h.row j y g;refine⟨r,N,O,by rw[O5 (Pt d)];exact e2,P.mod f λad S q=>?_,D,R⟩;obtain⟨T,a2⟩:=h.Hs e2 (D _ ⟨ad,S,rfl⟩).1;have:=c _ q;omega
theorem ua.kJ {e f:Sl}{j:List Sl}{g:List Bool}{hs':List (Option (List Int))}(h:ua H0 F0 col p dp F A s xs l kw w sw sl hsl hd isl isb hs)(o:Mod (λb=>ag hsl b\/ag isl b) A B)(hO:az GB dZ B e j)(iO:az KS K9 B f g)(C:∀b,(ag e b\/ag f b)->(ag hsl b\/ag isl b)\/A.size<=b)
  (row:∀(i:Nat) (y:List Int),hs'[i]?=some (some y)->∃r x,j[i]?=some r/\xs[i]?=some x/\Ints .u64 A r y/\(∀b,ag r b->x.own b/\b≠x.k)/\y.length<=16):∃col',ua H0 F0 col' p dp F B s xs l kw w sw sl e j f g hs'/\∀b,b<A.size->col' b=col b:=by
 obtain⟨col',c1,c2⟩:=ia col A.size (λ_=>False) (λ_=>False) (λ_=>True) 1 1 1 (λ_ q=>q.elim) (λ_ q=>q.elim) λ_ q=>q.elim;have z:=h.rds.mod.size;have L:∀b,b<A.size->col b≠1->¬(ag hsl b\/ag isl b):=λb _ D q=>D (h.cH b q).1;refine⟨col',⟨h.rds.rV (h.rds.pool.keep λb d hl=>o.same b hl λq=>?_) o (λb d q=>by rw[(h.cH b q).1];decide) (λb d q=>by have:=(h.cH b q).2;omega) (λb q=>by rw[c1 b (h.rds.pool.lt b q)];exact h.rds.cF b q) (λb d _=>c1 b d),h.wr.mod o λb d q=>?_,λb d=>?_,hO,iO,λb d=>?_,λi y hi=>?_⟩,c1⟩
 ·have a:=(h.rds.cF b d).1;have c:=(h.cH b q).1;omega
 ·have:=(h.cW b d).1;have:=(h.cH b q).1;omega
 ·rw[c1 b (h.Mz b d)];exact h.cW b d
 ·rcases C b d with u|u
  ·have lt:b<A.size:=u.elim (λv=>h.hO.lt b v) λv=>h.iO.lt b v;rw[c1 b lt];exact h.cH b u
  ·exact⟨(c2 b u).2.2 trivial,by omega⟩
 ·obtain⟨r,x,E,e2,G,t,I⟩:=row i y hi;refine⟨r,x,E,e2,G.mod o λad J q=>?_,t,I⟩;obtain⟨M,a2⟩:=h.Hs e2 (t _ ⟨ad,J,rfl⟩).1;have:=(h.cH _ q).1;omega
end
structure dE (hs:List (Option (List Int)))(i:Nat)(b:Option (Nat×List Int)):Prop where
 nn:b=none->∀j,j<i->∀y,hs[j]?≠some (some y)
 sm:∀k x,b=some (k,x)->k<i/\hs[k]?=some (some x)/\∀j,j<i->∀y,hs[j]?=some (some y)->aT x y<=0/\(j<k->aT x y<0)
theorem dE.zero (hs:List (Option (List Int))):dE hs 0 none:=⟨λ_ j a=>by omega,λk x h=>by cases h⟩
theorem dE.skip {hs:List (Option (List Int))}{i:Nat}{b:Option (Nat×List Int)}(h:dE hs i b)(hi:∀y,hs[i]?≠some (some y)):dE hs (i+1) b:=by
 refine⟨λe j c y=>?_,λk x e=>?_⟩
 ·rcases ON j i with q|q
  ·exact h.nn e j q y
  ·have:j=i:=by omega
   subst this;exact hi y
 ·obtain⟨h1,d,f⟩:=h.sm k x e;refine⟨by omega,d,λj c y a=>?_⟩;rcases ON j i with q|q
  ·exact f j q y a
  ·have:j=i:=by omega
   subst this;exact absurd a (hi y)
theorem dE.first {hs:List (Option (List Int))}{i:Nat}{y:List Int}(h:dE hs i none)(b:hs[i]?=some (some y)):dE hs (i+1) (some (i,y)):=by
 refine⟨λe=>(by cases e),λk x e=>?_⟩;cases e;refine⟨by omega,b,λj c z a=>?_⟩;rcases ON j i with q|q
 ·exact absurd a (h.nn rfl j q z)
 ·have:j=i:=by omega
  subst this;rw[b] at a;cases a;exact⟨by rw[iq];decide,λu=>by omega⟩
theorem dE.less {hs:List (Option (List Int))}{i k:Nat}{x y:List Int}(h:dE hs i (some (k,x)))(b:hs[i]?=some (some y))(c:aT y x<0):dE hs (i+1) (some (i,y)):=by
 obtain⟨h1,g,d⟩:=h.sm k x rfl;refine⟨λe=>(by cases e),λo t e=>?_⟩;cases e;refine⟨by omega,b,λj v z a=>?_⟩;rcases ON j i with q|q
 ·have f:=(d j q z a).1;have:aT y z<0:=by
   rcases Int.lt_or_eq_of_le f with u|u
   ·exact eV c u
   ·rw[<-b7.1 u];exact c
  exact⟨by omega,λ_=>this⟩
 ·have:j=i:=by omega
  subst this;rw[b] at a;cases a;exact⟨by rw[iq];decide,λu=>by omega⟩
theorem dE.stay {hs:List (Option (List Int))}{i k:Nat}{x y:List Int}(h:dE hs i (some (k,x)))(b:hs[i]?=some (some y))(f:¬aT y x<0):dE hs (i+1) (some (k,x)):=by
 obtain⟨h1,c,d⟩:=h.sm k x rfl;refine⟨λe=>(by cases e),λg o e=>?_⟩;cases e;refine⟨by omega,c,λj t z a=>?_⟩;rcases ON j i with q|q
 ·exact d j q z a
 ·have:j=i:=by omega
  subst this;rw[b] at a;cases a;have:=bX y x;exact⟨by omega,λu=>by omega⟩
theorem dE.jQ {hs:List (Option (List Int))}{b:Option (Nat×List Int)}(h:dE hs hs.length b):dJ hs=b:=by
 cases e:dJ hs with
 |none=>
   cases b with
   |none=>rfl
   |some q=>
     obtain⟨k,x⟩:=q;exact absurd (h.sm k x rfl).2.1 (jX e k x)
 |some q=>
   obtain⟨k,x⟩:=q;obtain⟨d,e2⟩:=gm e;have hk:=(NZ.1 d).1;cases b with
   |none=>exact absurd d (h.nn rfl k hk x)
   |some q=>
     obtain⟨f,g⟩:=q;obtain⟨h1,i,j⟩:=h.sm f g rfl;have a:=e2 f g i;have c:=j k hk x d;have sw:=bX x g;rcases Nat.lt_trichotomy k f with q|q|q
     ·have:=c.2 q;omega
     ·subst q;rw[d] at i;cases i;rfl
     ·have:=a.2 q;omega
section
variable {H0 H A B:aa}{F0 F F':Nat->Prop}{col col':Nat->Nat}{p dp:Nat}{s s':Pl}{xs:List mZ}{l:Sl}{kw:Nat}{w:RW}{sw sl hsl isl:Sl}{hd:List Sl}{isb:List Bool}{hs:List (Option (List Int))}{names:Sl}{ns:List ByteArray}{to:ByteArray}{W:Int}
set_option maxHeartbeats 1000000 in
theorem CW {x y:Nat}{h:(Option Addr×Int)->aa->Prop}{o:(Sl×Int)->aa->Prop}(hp:ao F H p dp s)(hn:names.n=ns.length)(R:∀A,Mod F H A->bP kQ A names.a ns)(I:∀n∈ns,n.size<=9223372036854775807)(b:Bd s x y)(hl:ns.length<=1000000)(d:x<900000000000)(hy:y<60000000000)
  (J:(aV W ns s).2.2≠0->∀F' A a,ao F' A p dp (aV W ns s).1->Step F F' H A->h (a,(aV W ns s).2.2) A)
  (S:(aV W ns s).2.2=0->∀F' A col xs l i,px H F col p dp F' A (aV W ns s).1 xs l->xs.map (·.r)=(aV W ns s).2.1->xs.length=ns.length->o (l,i) A):
  aw (Sl×Int) ((Sl.mk none 0 0),(0:Int)) H λnext z H1=>br (decide (z.2<(names.n:Int))) (ae names.a λa=>(0<=z.2/\z.2<(names.n:Int))/\Go.Proofs.YtmkbhnholcaghaaGreatDoor.ld aK H1 (a.add (z.2.toNat*1)) λ(x:ByteArray)=>Hy.sp (aE p) x W H1 λ(r:(Option Addr×Int)) Z=>br (r.2!=(0:Int)) (h r Z) (aI Z #[(.pointer r.1)] LZ λT H3=>ba ak NX (N2 #[Ld,Ld] Ld #[z.1.v,(.slice (some T) 1 1)]) H3 λ(l:Sl) H4=>next (l,NY.wrap (z.2+(1:Int))) H4)) (o z H1):=by
 refine ar ns.length (λi z A=>z.2=(i:Int)/\∃F' s' col xs,px H F col p dp F' A s' xs z.1/\xs.length=i/\Bd s' (x+i) (y+i)/\
  aV W ns s=((aV W (ns.drop i) s').1,xs.map (·.r)++(aV W (ns.drop i) s').2.1,(aV W (ns.drop i) s').2.2)) ?_ ?_
 ·refine⟨rfl,F,s,λ_=>0,[],⟨hp,λi x d=>by simp at d,λx d=>(by cases d),az.nil _ _ _,λb e=>⟨rfl,.inl e⟩,λi x d=>by simp at d,λb e=>absurd e (aS b),.refl _ _⟩,rfl,b,?_⟩;simp
 rintro i ⟨l,j⟩ A next hi ⟨O,F',s',col,xs,g,L,M,he⟩ t
 simp only at O;subst O;simp only;refine ah (λU=>?_) (λU=>?_)
 ·have f:i<ns.length:=by
   have:(i:Int)<(names.n:Int):=by simpa using U
   omega
  rw[OQ f] at he;have V:ns[i]?=some ns[i]:=N0 f;refine bP.one (E:=kQ) (c:=aK) (R A g.mod) hn rfl V rfl ?_;have q1:=M.lo;have q2:=M.hi;have q3:=M.aB;have X:=M.open (n:=ns[i]) (W:=W) (by omega);have bl:=M.look (n:=ns[i]) (by omega) 0;have q4:=bl.aB;simp only[aV] at he;refine xF g.pool (I _ (OH f)) (by omega) (by omega) q1 (by omega) (λP B p1 N D=>?_) (λP B k r p1 N D r1 k1 k2=>?_)
  ·have G:=oR.1 D;rw[D] at he;simp only[Qi] at he;refine aP (by simpa using G) ?_;rw[he] at J;exact J G P B none p1 (g.step.trans N)
  ·have G:(rnOpen s' ns[i] W).2.2=0:=oR.2 (by rw[D];simp);rw[D] at he;simp only at he;rw[G];refine aC rfl ?_;obtain⟨ok,rb,_⟩:=mg D;have z1:=N.mod.size;obtain⟨col',c1,c2⟩:=ia col A.size P (λb=>b=k) (λb=>B.size<=b) 0 (5+i) 4 (λb q r=>k2 (r▸q)) (λb q r=>by have:=p1.lt b q;omega) (λb q r=>by have:=r1.lt b (.inl q);omega);have h1:=g.rV (col':=col') p1 N.mod (λb e q=>by rw[(g.cF b q).1];decide) (λb e q=>(g.cF b q).2.resolve_right (by omega)) (λb q=>by
    rcases N.own b q with u|u
    ·rw[c1 b (g.pool.lt b u)];exact g.cF b u
    ·exact⟨(c2 b u).1 q,.inr (by have:=g.mod.size;omega)⟩) λb e _=>c1 b e
   refine az.push (E:=dK) (x:=k) L9 h1.list rfl (by simp;omega) (by simp;omega) λl' C o3 g3 _=>?_;rw[aD i (by omega)];have off:∀b,ag l b->col' b=4:=λb e=>(h1.cL b e).1;have kr:AJ C k p r bk []:=r1.mod g3.1 λb e q=>by
    have hk:b=k:=by
     rcases e with u|u|⟨z,u,_⟩
     ·exact u
     ·exact absurd u (aS b)
     ·cases u
    have a:=h1.list.lt b q;have b4:=off b q;subst hk;have:=(c2 b k1).2.1 rfl;omega
   have hz:=h1.mod.size;refine t f (l',((i+1:Nat):Int)) C ⟨rfl,P,(rnOpen s' ns[i] W).1,col',xs++[⟨k,r,bk,[]⟩],⟨?_,λj x d=>?_,λx d=>?_,?_,λb e=>h1.cF b e,λj x d b e=>?_,λb e=>?_,?_⟩,?_,?_,?_⟩
   ·exact h1.pool.keep λb e f=>g3.1.same b f λq=>by have:=(h1.cF b e).1;have:=off b q;omega
   ·rw[QF] at d;split at d
    ·exact(h1.rds j x d).mod g3.1 λb e q=>by have:=(h1.cR j x d b e).1;have:=off b q;omega
    ·rename_i q;have:j - xs.length=0:=by have:=(NZ.1 d).1;simp at this;omega
     rw[this] at d;simp at d;subst d;exact kr
   ·rcases N6.1 d with q|q
    ·exact h1.oks x q
    ·rw[Oj] at q;subst q;exact⟨ok,by show r.b.name.size<=_;rw[rb];exact I _ (OH f)⟩
   ·rw[OG];exact o3
   ·rw[QF] at d;split at d
    ·exact h1.cR j x d b e
    ·rename_i q;have O:j - xs.length=0:=by have:=(NZ.1 d).1;simp at this;omega
     rw[O] at d;simp at d;subst d;have hk:b=k:=by
      rcases e with u|u|⟨z,u,_⟩
      ·exact u
      ·exact absurd u (aS b)
      ·cases u
     subst hk;have:=(c2 b k1).2.1 rfl;refine⟨by omega,by have:=g.mod.size;omega⟩
   ·rcases g3.2 b e with q|q
    ·exact h1.cL b q
    ·exact⟨(c2 b (by omega)).2.2 q,by omega⟩
   ·exact h1.mod.trans' g3.1 λb e q=>by have:=(h1.cL b q).2;omega
   ·simp;exact L
   ·exact X.mono (by omega) (by omega)
   ·rw[he,OG];simp
 ·have Y:i=ns.length:=by
   have:¬(i:Int)<(names.n:Int):=by simpa using U
   omega
  subst Y;rw[Rp] at he;simp only[aV,Qi] at he;have G:(aV W ns s).2.2=0:=by rw[he]
  exact S G F' A col xs l _ (by rw[he];exact g) (by rw[he]) L
set_option maxHeartbeats 2000000 in
theorem Cx {u v:Nat}{I:(Sl×Bool×Int)->aa->Prop}{J:(Sl×Sl×Int)->aa->Prop}(h:ua H0 F0 col p dp F A s xs l kw w sw sl (Sl.mk none 0 0) [] (Sl.mk none 0 0) [] [])(b:Bd s u v)(hu:u<900000000000)(hv:v<60000000000)(hl:xs.length<=1000000)
  (a1:(bc (xs.map (·.r)) s).2.2.2≠0->∀F' B r k,ao F' B p dp (bc (xs.map (·.r)) s).1->Step F0 F' H0 B->I (r,k,(bc (xs.map (·.r)) s).2.2.2) B)
  (a6:(bc (xs.map (·.r)) s).2.2.2=0->∀F' B col' a hsl hd isl isb hs i,ua H0 F0 col' p dp F' B (bc (xs.map (·.r)) s).1 a l kw w sw sl hsl hd isl isb hs->a.map (·.r)=(bc (xs.map (·.r)) s).2.1->hs=(bc (xs.map (·.r)) s).2.2.1->isb=hs.map TY->hs.length=xs.length->hd.length=xs.length->a.length=xs.length->Bd (bc (xs.map (·.r)) s).1 (u+xs.length) (v+xs.length)->J (hsl,isl,i) B):
  aw (Sl×Sl×Int) ((Sl.mk none 0 0),(Sl.mk none 0 0),(0:Int)) A λg d H6=>br (decide (d.2.2<(l.n:Int))) (ae l.a λa7=>(0<=d.2.2/\d.2.2<(l.n:Int))/\Go.Proofs.YtmkbhnholcaghaaGreatDoor.ld av H6 (a7.add (d.2.2.toNat*1)) λ(a8:Option Addr)=>Ck.sp a8 H6 λ(o:(Sl×Bool×Int)) H7=>br (o.2.2!=(0:Int)) (I o H7) (aI H7 #[o.1.v] dZ λbb H8=>ba ak NX (N2 #[gd,gd] gd #[d.1.v,(.slice (some bb) 1 1)]) H8 λ(kJ:Sl) H9=>aI H9 #[(.bool o.2.1)] K9 λbl bn=>ba ak NX (N2 #[K2,K2] K2 #[d.2.1.v,(.slice (some bl) 1 1)]) bn λ(is:Sl) bs=>g (kJ,is,NY.wrap (d.2.2+(1:Int))) bs)) (J d H6):=by
 have bx:l.n=xs.length:=by rw[az.n h.rds.list (by decide)];simp
 refine ar xs.length (λi z B=>z.2.2=(i:Int)/\i<=xs.length/\∃F' col' s' a hd isb hs,ua H0 F0 col' p dp F' B s' a l kw w sw sl z.1 hd z.2.1 isb hs/\Bd s' (u+i) (v+i)/\isb=hs.map TY/\hs.length=i/\hd.length=i/\a.length=xs.length/\a.drop i=xs.drop i/\
  bc (xs.map (·.r)) s=((bc ((xs.drop i).map (·.r)) s').1,(a.take i).map (·.r)++(bc ((xs.drop i).map (·.r)) s').2.1,hs++(bc ((xs.drop i).map (·.r)) s').2.2.1,(bc ((xs.drop i).map (·.r)) s').2.2.2))
  ⟨rfl,On _,F,col,s,xs,[],[],[],h,b,rfl,rfl,rfl,rfl,rfl,by simp⟩ ?_
 rintro i ⟨hsl,isl,zi⟩ B next hi ⟨P,b3,F',col',s',a,hd,isb,hs,R,bd,t,S,T,U,V,he⟩ M
 simp only at P R ⊢;subst P;refine ah (λhc=>?_) λhc=>?_
 ·have N:i<xs.length:=by have:(i:Int)<(l.n:Int):=of_decide_eq_true hc;omega
  have L:i<a.length:=by omega
  have hx:a[i]?=some a[i]:=N0 L;have bA:xs[i]=a[i]:=by
   have h1:=congrArg (λq=>q[0]?) V;simp only[Pw,Rt] at h1;rw[hx,N0 N] at h1;exact(Ow h1).symm
  rw[OQ N,Ol,bA] at he;simp only[bc] at he;refine bP.one (E:=dK) (c:=av) (y:=aE a[i].k) R.rds.list.rd (by rw[bx];simp;omega) rfl (i:=i) (x:=a[i].k) (by rw[Oa,hx];rfl) rfl ?_;have bB:=bd.next (r:=a[i].r) (by omega);refine R.next hx bd (by omega) (by omega) λF2 C b1 x' row e q2 q3 q4 q5=>?_;by_cases X:(a[i].r.next s').2.2.2.2=0
  ·rw[if_neg (by rw[X];simp)] at he;refine aC (by rw[X];rfl) ?_;rw[List.set_eq_of_length_le (l:=hs) (by omega)] at e;obtain⟨ok,_⟩:=R.rds.oks _ (OH L);have G:=RR.fW ok s';refine az.push (E:=GB) (x:=row) Mp e.hO rfl (by omega) (by omega) λY D oD Z _=>?_;have zD:=Z.1.size;have af:az KS K9 D isl isb:=e.iO.mod Z.1 λb hb u=>e.iO.apart e.hO (by decide) b hb u;refine az.push (E:=KS) (x:=(a[i].r.next s').2.2.2.1) Mt af rfl (by rw[t];simp;omega) (by rw[t];simp;omega) λb2 E oE gE _=>?_;have zE:=gE.1.size;have bC:az GB dZ E Y (hd++[row]):=oD.mod gE.1 λb hb u=>by
    rcases Z.2 b hb with v|v
    ·exact e.iO.apart e.hO (by decide) b u v
    ·have:=af.lt b u;have b4:=e.iO.lt b u;omega
   have bD:Mod (λb=>ag hsl b\/ag isl b) C E:=(Z.1.mono λb _ u=>.inl u).trans' gE.1 λb _ u=>.inr u;obtain⟨an,q6,c3⟩:=e.kJ (hs':=hs++[dN (a[i].r.next s').2.2.1 (a[i].r.next s').2.2.2.1]) bD bC oE (λb hb=>by
    rcases hb with u|u
    ·exact(Z.2 b u).imp .inl id
    ·exact(gE.2 b u).imp .inr λv=>by omega) λj y f=>by
    rcases ON j hs.length with v|v
    ·rw[Ot v] at f;obtain⟨r,x,O,e2,e3,e4,e5⟩:=e.row j y f;exact⟨r,x,by rw[Ot (by omega)];exact O,e2,e3,e4,e5⟩
    ·rw[O1 v] at f;have j0:j - hs.length=0:=by have:=(NZ.1 f).1;simp at this;omega
     have bM:j=i:=by omega
     rw[j0] at f;simp only[List.getElem?_cons_zero,OV] at f;unfold dN at f;split at f
     ·rename_i bO;cases f;exact⟨row,x',by rw[O1 (by omega),show j - hd.length=0 by omega];rfl,by rw[bM,O9 (by omega)],q3,q4,(G.2.2.2.1 bO).2.2.2⟩
     ·cases f
   refine M N _ _ ⟨aD i (by omega),by omega,F2,an,_,a.set i x',hd++[row],isb++[(a[i].r.next s').2.2.2.1],hs++[dN (a[i].r.next s').2.2.1 (a[i].r.next s').2.2.2.1],q6,bB.mono (by omega) (by omega),?_,by simp[S],by simp[T],by simp[U],?_,?_⟩
   ·rw[t,OG];congr 1;unfold dN;cases (a[i].r.next s').2.2.2.1<;>rfl
   ·rw[List.drop_set_of_lt (by omega)];have:=congrArg (List.drop 1) V;rw[QT,QT] at this;exact this
   ·rw[he,List.take_succ_eq_append_getElem (by simp;omega),OG];simp only[List.getElem_set_self,Ol,QI,OU,List.singleton_append,List.cons_append,List.nil_append];rw[List.take_set_of_le (N3 i),q2]
  ·rw[if_pos X] at he;refine aP (by simpa using X) ?_;have O:(bc (xs.map (·.r)) s).2.2.2=(a[i].r.next s').2.2.2.2:=by rw[he]
   have e2:(bc (xs.map (·.r)) s).1=(a[i].r.next s').1:=by rw[he]
   rw[<-O];refine a1 (by rw[O];exact X) F2 C row _ (by rw[e2];exact e.rds.pool) e.rds.step
 ·have b0:i=xs.length:=by have:¬(i:Int)<(l.n:Int):=of_decide_eq_false hc;omega
  subst b0;rw[Rp] at he;simp only[QI,bc,Qi] at he;have O:(bc (xs.map (·.r)) s).1=s':=by rw[he]
  have e2:(bc (xs.map (·.r)) s).2.1=(a.take xs.length).map (·.r):=by rw[he]
  have e3:(bc (xs.map (·.r)) s).2.2.1=hs:=by rw[he]
  have e4:(bc (xs.map (·.r)) s).2.2.2=0:=by rw[he]
  refine a6 e4 F' B col' a hsl hd isl isb hs _ (by rw[O];exact R) (by rw[e2,List.take_of_length_le (by omega)]) e3.symm t S T U (by rw[O];exact bd)
theorem Eo {u:(Int×Int)->aa->Prop}(h:ua H0 F0 col p dp F A s xs l kw w sw sl hsl hd isl isb hs)(I:isb=hs.map TY)(hl:hs.length=xs.length)(an:hd.length=xs.length)(a1:xs.length<=1000000)
  (hK:∀z,(dJ hs=none->z.1<0)->(∀k x,dJ hs=some (k,x)->z.1=(k:Int)/\k<xs.length)->u z A):
  aw (Int×Int) ((-1:Int),(0:Int)) A λd a g=>br (decide (a.2<(l.n:Int))) (ae isl.a λM=>(0<=a.2/\a.2<(isl.n:Int))/\Go.Proofs.YtmkbhnholcaghaaGreatDoor.ld ay g (M.add (a.2.toNat*1)) λ(N:Bool)=>br (N==true) (br (decide (a.1<(0:Int))) (d (a.2,NY.wrap (a.2+(1:Int))) g) (ae hsl.a λO=>(0<=a.2/\a.2<(hsl.n:Int))/\Go.Proofs.YtmkbhnholcaghaaGreatDoor.ld ak g (O.add (a.2.toNat*1)) λ(P:Sl)=>ae hsl.a λR=>(0<=a.1/\a.1<(hsl.n:Int))/\Go.Proofs.YtmkbhnholcaghaaGreatDoor.ld ak g (R.add (a.1.toNat*1)) λ(S:Sl)=>zp.sp P S g λ(T:Int) J=>br (decide (T<(0:Int))) (d (a.2,NY.wrap (a.2+(1:Int))) J) (d (a.1,NY.wrap (a.2+(1:Int))) J))) (d (a.1,NY.wrap (a.2+(1:Int))) g)) (u a g):=by
 have a6:l.n=xs.length:=by rw[az.n h.rds.list (by decide)];simp
 have a7:isl.n=isb.length:=az.n h.iO (by decide);have a8:hsl.n=hd.length:=az.n h.hO (by decide);have af:isb.length=xs.length:=by rw[I,OL,hl]
 refine ar xs.length (λi z B=>A=B/\z.2=(i:Int)/\i<=xs.length/\∃b,dE hs i b/\(b=none->z.1<0)/\∀k x,b=some (k,x)->z.1=(k:Int)) ⟨rfl,rfl,On _,none,dE.zero hs,λ_=>by decide,λk x e=>by cases e⟩ ?_;rintro i ⟨zb,zi⟩ B next hi ⟨rfl,L,bb,b,v,j,o⟩ f
 simp only at L j o ⊢;subst L;refine ah (λU=>?_) λU=>?_
 ·have t:i<xs.length:=by have:(i:Int)<(l.n:Int):=of_decide_eq_true U;omega
  have C:i<hs.length:=by omega
  have G:=aD i (by omega);have V:isb[i]?=some (hs[i]).isSome:=by rw[I,Oa,N0 C];rfl
  refine bP.one (E:=KS) (c:=ay) (y:=(hs[i]).isSome) h.iO.rd (by omega) rfl (i:=i) (x:=(hs[i]).isSome) V rfl ?_;cases hh:hs[i] with
  |none=>
    refine aC rfl ?_;rw[G];exact f t _ _ ⟨rfl,rfl,by omega,b,v.skip (λy D=>(by rw[N0 C,hh] at D;cases D)),j,o⟩
  |some y=>
    have D:hs[i]?=some (some y):=by rw[N0 C,hh]
    refine aP rfl ?_;obtain⟨r,x,r1,r2,r3,r4,r5⟩:=h.row i y D;cases hb:b with
    |none=>
      subst hb;refine aP (decide_eq_true (j rfl)) ?_;rw[G];exact f t _ _ ⟨rfl,rfl,by omega,some (i,y),v.first D,λe=>(by cases e),λk x e=>by cases e;rfl⟩
    |some q=>
      obtain⟨k,x0⟩:=q;subst hb;have X:=o k x0 rfl;obtain⟨k1,k2,_⟩:=v.sm k x0 rfl;subst X;refine aC (decide_eq_false (by omega)) ?_;obtain⟨rk,xk,s1,s2,s3,s4,s5⟩:=h.row k x0 k2;refine bP.one (E:=GB) (c:=ak) (y:=r) h.hO.rd (by omega) rfl (i:=i) (x:=r) r1 rfl ?_;refine bP.one (E:=GB) (c:=ak) (y:=rk) h.hO.rd (by omega) rfl (i:=k) (x:=rk) s1 rfl ?_;refine jJ r3 s3 (by omega) ?_;rw[G];refine ah (λY=>?_) λY=>?_
      ·exact f t _ _ ⟨rfl,rfl,by omega,some (i,y),v.less D (of_decide_eq_true Y),λe=>(by cases e),λk x e=>by cases e;rfl⟩
      ·exact f t _ _ ⟨rfl,rfl,by omega,some (k,x0),v.stay D (of_decide_eq_false Y),λe=>(by cases e),λk x e=>by cases e;rfl⟩
 ·have Z:i=xs.length:=by have:¬(i:Int)<(l.n:Int):=of_decide_eq_false U;omega
  subst Z;rw[<-hl] at v;have e:=v.jQ;refine hK _ (λe0=>j (e.symm.trans e0)) λk x e0=>?_;have G:=e.symm.trans e0;have:=(v.sm k x G).1;exact⟨o k x G,by omega⟩
end
theorem az.st1 {α:Type}{E:eH α}{e:TypeId}{H:aa}{s:Sl}{l:List α}{K:aa->Prop}(h:az E e H s l)(hs:E.size=1){i:Nat}{x y:α}{v:Value}(hi:l[i]?=some x)(c:jj v=true)(d:E.enc y=[v])
  (f:∀H',az E e H' s (l.set i y)->Mod (ag s) H H'->H'.size=H.size->K H'):ae s.a λa=>(0<=(i:Int)/\(i:Int)<(s.n:Int))/\Go.Proofs.YtmkbhnholcaghaaGreatDoor.st H (a.add ((i:Int).toNat*1)) v K:=by
 have hl:=(NZ.1 hi).1;have g:=az.n h (by omega);obtain⟨ad,b⟩:=h.rd.addr (by omega) (by omega);refine aX ad b ⟨⟨by omega,by omega⟩,?_⟩;obtain⟨u,hu⟩:=List.length_eq_one_iff.1 ((E.len x).trans hs);have:=az.st h b (j:=0) (n:=(i:Int).toNat*1) hi (by omega) c (by rw[d,hu];rfl) (by rw[hs,N5]) f;rw[add_add] at this;exact this
structure tF (H0:aa)(F0:Nat->Prop)(p dp:Nat)(A:aa)(l hsl isl:Sl)(kw:Nat)(to:ByteArray)(f0 u v:Nat)(res:Pl×Nat×Int)(f:Nat):Prop where
 ex:∃col F s xs w sw sl hd isb hs,ua H0 F0 col p dp F A s xs l kw w sw sl hsl hd isl isb hs/\isb=hs.map TY/\hs.length=xs.length/\hd.length=xs.length/\xs.length<=1000000/\bN (xs.map (·.r))+fP hs<f/\res=fX f s (xs.map (·.r)) hs w/\lT w to (f0 - f)/\Bd s (u+2*(f0 - f)) (v+3*(f0 - f))/\f<=f0
section
variable {H A:aa}{F:Nat->Prop}{p dp:Nat}{s:Pl}{names l hsl isl:Sl}{ns:List ByteArray}{to:ByteArray}{W:Int}{kw f0 f u v:Nat}{res:Pl×Nat×Int}
set_option maxHeartbeats 4000000 in
theorem Cn {K:(Int×Int)->aa->Prop}(a8:to.size<=9223372036854775807)(eE:f0<=2000000000)(hu:u<900000000000)(hv:v<60000000000)
  (h:tF H F p dp A l hsl isl kw to f0 u v res f)
  (hK:∀F' B,ao F' B p dp res.1->Step F F' H B->K ((res.2.1:Int),res.2.2) B):
  aw Unit () A λV _ ck=>aw (Int×Int) ((-1:Int),(0:Int)) ck λI g t=>br (decide (g.2<(l.n:Int))) (ae isl.a λcm=>(0<=g.2/\g.2<(isl.n:Int))/\Go.Proofs.YtmkbhnholcaghaaGreatDoor.ld ay t (cm.add (g.2.toNat*1)) λ(cx:Bool)=>br (cx==true) (br (decide (g.1<(0:Int))) (I (g.2,NY.wrap (g.2+(1:Int))) t) (ae hsl.a λcy=>(0<=g.2/\g.2<(hsl.n:Int))/\Go.Proofs.YtmkbhnholcaghaaGreatDoor.ld ak t (cy.add (g.2.toNat*1)) λ(cz:Sl)=>ae hsl.a λcB=>(0<=g.1/\g.1<(hsl.n:Int))/\Go.Proofs.YtmkbhnholcaghaaGreatDoor.ld ak t (cB.add (g.1.toNat*1)) λ(c0:Sl)=>zp.sp cz c0 t λ(c5:Int) bb=>br (decide (c5<(0:Int))) (I (g.2,NY.wrap (g.2+(1:Int))) bb) (I (g.1,NY.wrap (g.2+(1:Int))) bb))) (I (g.1,NY.wrap (g.2+(1:Int))) t)) (br (decide (g.1<(0:Int))) (Gw.sp (aE kw) t λ(bl:(Int×Int)) dc=>K (bl.1,bl.2) dc) (cut Unit (λJ=>ae (aE kw) λdk=>Go.Proofs.YtmkbhnholcaghaaGreatDoor.ld (ab .i64) t (dk.add 8) λ(dn:Int)=>br (dn==(0:Int)) (ae hsl.a λdA=>(0<=g.1/\g.1<(hsl.n:Int))/\Go.Proofs.YtmkbhnholcaghaaGreatDoor.ld ak t (dA.add (g.1.toNat*1)) λ(dB:Sl)=>Be.sp (aE kw) dB t λ(e:Int) bn=>br (e !=(0:Int)) (K ((0:Int),e) bn) (J () bn)) (ae hsl.a λdD=>(0<=g.1/\g.1<(hsl.n:Int))/\Go.Proofs.YtmkbhnholcaghaaGreatDoor.ld ak t (dD.add (g.1.toNat*1)) λ(dT:Sl)=>ae (aE kw) λeb=>Go.Proofs.YtmkbhnholcaghaaGreatDoor.ld ak t (eb.add 7) λ(ec:Sl)=>zp.sp dT ec t λ(ed:Int) a1=>br (ed !=(0:Int)) (ae hsl.a λee=>(0<=g.1/\g.1<(hsl.n:Int))/\Go.Proofs.YtmkbhnholcaghaaGreatDoor.ld ak a1 (ee.add (g.1.toNat*1)) λ(eg:Sl)=>Be.sp (aE kw) eg a1 λ(bs:Int) bx=>br (bs !=(0:Int)) (K ((0:Int),bs) bx) (J () bx)) (J () a1))) λ(_:Unit) bA=>ae l.a λbB=>(0<=g.1/\g.1<(l.n:Int))/\Go.Proofs.YtmkbhnholcaghaaGreatDoor.ld av bA (bB.add (g.1.toNat*1)) λ(bC:Option Addr)=>Ck.sp bC bA λ(X:(Sl×Bool×Int)) bD=>br (X.2.2!=(0:Int)) (K ((0:Int),X.2.2) bD) (ae hsl.a λbM=>(0<=g.1/\g.1<(hsl.n:Int))/\Go.Proofs.YtmkbhnholcaghaaGreatDoor.st bD (bM.add (g.1.toNat*1)) X.1.v λei=>ae isl.a λbO=>(0<=g.1/\g.1<(isl.n:Int))/\Go.Proofs.YtmkbhnholcaghaaGreatDoor.st ei (bO.add (g.1.toNat*1)) (.bool X.2.1) λej=>V () ej))):=by
 refine⟨Nat,λf _ A=>tF H F p dp A l hsl isl kw to f0 u v res f,λf=>f,⟨f,h⟩,?_⟩;rintro f _ A ⟨col,F',s',xs,w,sw,sl,hd,isb,hs,G,a6,hlen,b2,b3,hf,an,hw,bd,eI⟩;cases f with
 |zero=>exact absurd hf (Nat.not_lt_zero _)
 |succ f=>
 refine Eo G a6 hlen b2 b3 λz b0 b1=>?_;obtain⟨zb,zi⟩:=z;simp only at b0 b1 ⊢;have ek:hsl.n=hd.length:=az.n G.hO (by decide);have e7:isl.n=isb.length:=az.n G.iO (by decide);have en:l.n=xs.length:=by rw[az.n G.rds.list (by decide)];simp
 cases O:dJ hs with
 |none=>
   refine aP (decide_eq_true (b0 O)) ?_;have er:res=((w.close s').1,(w.close s').2.2.1,(w.close s').2.2.2):=by
    rw[an];unfold fX;rw[O]
   rw[er] at hK;have T:=bd.lo;have q2:=bd.hi;have q3:=bd.aB;have o:=bd.out (w:=w) (by omega);have o1:=o.hi;have o2:=o.aB;refine u6 G.wr G.rds.pool (λb O q=>by have:=(G.rds.cF b O).1;have:=(G.cW b q).1;omega) (by have:=hw.rows;omega) hw.width.1 (by rw[hw.name];exact a8) (by omega) (by omega) T bd.fit (by omega) (by omega) (λz d=>by have:=(Bd.leave ((o.bt (n:=w.b.name) (by omega) 0).set z 2 d) z).aB;omega) o.fit (λz d=>(Bd.leave ((o.bt (n:=w.b.name) (by omega) 0).set z 2 d) z).fit) λM e8 C p2 w2 d2 S2=>?_;refine hK M C p2 ⟨G.rds.mod.trans' S2.mod λb O q=>?_,λb O=>?_⟩
   ·rcases q with r|r
    ·exact(G.rds.cF b r).2.resolve_right (by omega)
    ·exact(G.cW b r).2.resolve_right (by omega)
   ·rcases S2.own b (.inl O) with (r|r)|r
    ·exact(G.rds.cF b r).2
    ·exact(G.cW b r).2
    ·have:=G.rds.mod.size;exact .inr (by omega)
 |some q=>
   obtain⟨k,x⟩:=q;obtain⟨hz,hk⟩:=b1 k x O;subst hz;refine aC (decide_eq_false (by omega)) ?_;have b4:=(gm O).1;obtain⟨r,y,e1,e2,e3,e4,e5⟩:=G.row k x b4;have er:res=if (aQ s' w x).2.2≠0 then ((aQ s' w x).1,0,(aQ s' w x).2.2)
    else if (y.r.next (aQ s' w x).1).2.2.2.2≠0 then ((y.r.next (aQ s' w x).1).1,0,(y.r.next (aQ s' w x).1).2.2.2.2)
    else fX f (y.r.next (aQ s' w x).1).1 ((xs.map (·.r)).set k (y.r.next (aQ s' w x).1).2.1) (hs.set k (dN (y.r.next (aQ s' w x).1).2.2.1 (y.r.next (aQ s' w x).1).2.2.2.1)) (aQ s' w x).2.1:=by
    have eo:(xs.map (·.r)).getD k default=y.r:=by rw[Pc,Oa,e2];rfl
    rw[an];show (match dJ hs with|none=>_|some (i,x)=>_)=_;rw[O];simp only;rw[eo]
   have a7:∀{C:aa} {K':Sl->Prop},az GB dZ C hsl hd->K' r->ae hsl.a λa=>(0<=(k:Int)/\(k:Int)<(hsl.n:Int))/\Go.Proofs.YtmkbhnholcaghaaGreatDoor.ld ak C (a.add ((k:Int).toNat*1)) K':=λ{C K'} hC ep=>bP.one (E:=GB) (c:=ak) (y:=r) hC.rd ek rfl (i:=k) (x:=r) e1 rfl ep;refine⟨λ_ B=>(aQ s' w x).2.2=0/\∃L M P R,ua H F L p dp M B (aQ s' w x).1 xs l kw (aQ s' w x).2.1 P R hsl hd isl isb hs/\lT (aQ s' w x).2.1 to (f0 - f)/\Bd (aQ s' w x).1 (u+2*(f0 - (f+1))+1) (v+3*(f0 - (f+1))+2),?_,?_⟩
   ·have added:∀(Kb:Int->aa->Prop),(aQ s' w x)=w.add s' x->(∀B,(w.add s' x).2.2≠0->(∃M,ao M B p dp (w.add s' x).1/\Step F M H B)->Kb (w.add s' x).2.2 B)->
      (∀B,((aQ s' w x).2.2=0/\∃L M P R,ua H F L p dp M B (aQ s' w x).1 xs l kw (aQ s' w x).2.1 P R hsl hd isl isb hs/\lT (aQ s' w x).2.1 to (f0 - f)/\Bd (aQ s' w x).1 (u+2*(f0 - (f+1))+1) (v+3*(f0 - (f+1))+2))->(w.add s' x).2.2=0->Kb (w.add s' x).2.2 B)->Be.sp (aE kw) r A Kb:=by
     intro Kb U k1 k2;refine G.add hw (by omega) a8 bd (by omega) (by omega) e5 e3 (λad ha q=>by have:=(G.Hs e2 (e4 _ ⟨ad,ha,rfl⟩).1).1;have:=(G.cW _ q).1;omega) λM B L P R hB zB=>?_;by_cases N:(w.add s' x).2.2=0
     ·have ra:=hw.add s' x;refine k2 B ?_ N;rw[U];exact⟨N,L,M,P,R,hB,ra.1.mono (by omega),bd.add (by omega) _⟩
     ·exact k1 B N ⟨M,hB.rds.pool,hB.rds.step⟩
    have bad:∀B,(aQ s' w x)=w.add s' x->(w.add s' x).2.2≠0->(∃M,ao M B p dp (w.add s' x).1/\Step F M H B)->K ((0:Int),(w.add s' x).2.2) B:=λB U N ⟨M,p2,S2⟩=>by
     have b5:=er;rw[U,if_pos N] at b5;rw[b5] at hK;exact hK M B p2 S2
    refine aX ⟨kw,0,none⟩ rfl ?_;refine aj.ld (c:=ab .i64) (i:=8) (x:=(w.rows:Int)) G.wr.row (bG.tail (j:=3) rfl) ?_;by_cases Y:w.rows=0
    ·have U:aQ s' w x=w.add s' x:=by unfold aQ;rw[if_pos (.inl Y)]
     refine aP (by rw[Y];rfl) ?_;refine a7 G.hO ?_;exact added _ U (λB N q=>aP (by simpa using N) (bad B U N q)) λB hJ N=>aC (by rw[N];rfl) hJ
    ·refine aC (by simpa using Y) ?_;refine a7 G.hO ?_;refine aX ⟨kw,0,none⟩ rfl ?_;refine aj.ld (c:=ak) (i:=7) (x:=sl) G.wr.row (bG.tail (j:=2) rfl) ?_;refine jJ e3 G.wr.last.ints (by omega) ?_;by_cases S:aT x w.last=0
     ·have U:aQ s' w x=(s',w,0):=by unfold aQ;rw[if_neg (by rintro(q|q);exact Y q;exact q S)]
      refine aC (by rw[S];rfl) ?_;rw[U];exact⟨rfl,col,F',sw,sl,G,hw.mono (by omega),bd.mono (by omega) (by omega)⟩
     ·have U:aQ s' w x=w.add s' x:=by unfold aQ;rw[if_pos (.inr S)]
      refine aP (by simpa using S) ?_;refine a7 G.hO ?_;exact added _ U (λB N q=>aP (by simpa using N) (bad B U N q)) λB hJ N=>aC (by rw[N];rfl) hJ
   ·rintro _ B ⟨N,L,M,P,R,hB,et,b6⟩;rw[if_neg (by rw[N];simp)] at er;generalize aQ s' w x=a at*;refine bP.one (E:=dK) (c:=av) (y:=aE y.k) hB.rds.list.rd (by rw[en];simp) rfl (i:=k) (x:=y.k) (by rw[Oa,e2];rfl) rfl ?_;refine hB.next e2 b6 (by omega) (by omega) λF3 C eD y' row T q2 q3 q4 q5=>?_;by_cases e6:(y.r.next a.1).2.2.2.2=0
    ·rw[if_neg (by rw[e6];simp)] at er;refine aC (by rw[e6];rfl) ?_;have eu:=b6.next (r:=y.r) (by omega);have b9:k<hd.length:=by omega
     have ev:k<isb.length:=by rw[a6,OL];omega
     have ew:k<hs.length:=by omega
     refine az.st1 (E:=GB) (y:=row) T.hO rfl (N0 b9) (by cases row;rfl) rfl λD oD mD zD=>?_;have ey:az KS K9 D isl isb:=T.iO.mod mD λb O u=>T.iO.apart T.hO (by decide) b O u;refine az.st1 (E:=KS) (y:=(y.r.next a.1).2.2.2.1) ey rfl (N0 ev) rfl rfl λE oE mE zE=>?_;have eA:az GB dZ E hsl (hd.set k row):=oD.mod mE λb O u=>T.iO.apart T.hO (by decide) b u O;have eB:Mod (λb=>ag hsl b\/ag isl b) C E:=(mD.mono λb _ u=>.inl u).trans' mE λb _ u=>.inr u;obtain⟨ok,_⟩:=hB.rds.oks y (N1 e2);have Z:=RR.fW ok a.1;obtain⟨cb,q6,c4⟩:=T.kJ (hs':=hs.set k (dN (y.r.next a.1).2.2.1 (y.r.next a.1).2.2.2.1)) eB eA oE (λb O=>.inl O) λj yj hj=>by
      by_cases af:j=k
      ·subst af;rw[O9 ew] at hj;simp only[OV] at hj;unfold dN at hj;split at hj
       ·rename_i eC;cases hj;exact⟨row,y',O9 b9,O9 (by omega),q3,q4,(Z.2.2.2.1 eC).2.2.2⟩
       ·cases hj
      ·rw[O5 (Pt af)] at hj;obtain⟨r',x',g1,g2,g3,g4,g5⟩:=T.row j yj (by rw[O5 (Pt af)];exact hj);exact⟨r',x',by rw[O5 (Pt af)];exact g1,g2,g3,g4,g5⟩
     have c1:=mN (rs:=xs.map (·.r)) (i:=k) (r:=y.r) (r':=y'.r) (by rw[Oa,e2];rfl);have c2:=l9 (i:=k) (b:=dN (y.r.next a.1).2.2.1 (y.r.next a.1).2.2.2.1) b4;have c3:=RR.ko ok a.1;rw[q2] at c1;simp only[Option.isSome_some,if_true] at c2;refine⟨f,⟨cb,F3,_,xs.set k y',a.2.1,P,R,hd.set k row,isb.set k (y.r.next a.1).2.2.2.1,hs.set k (dN (y.r.next a.1).2.2.1 (y.r.next a.1).2.2.2.1),q6,?_,by simp;exact hlen,by simp;exact b2,by simp;exact b3,?_,?_,et,eu.mono (by omega) (by omega),by omega⟩,Rn _⟩
     ·rw[a6,Pn];congr 1;unfold dN;cases (y.r.next a.1).2.2.2.1<;>rfl
     ·rw[Pn,q2];omega
     ·rw[er,Pn,q2]
    ·rw[if_pos e6] at er;rw[er] at hK;exact aP (by simpa using e6) (hK F3 C T.rds.pool T.rds.step)
set_option maxHeartbeats 2000000 in
theorem uO {K:(Int×Int)->aa->Prop}{x y N:Nat}(hp:ao F H p dp s)(J:names.n=ns.length)(L:∀A,Mod F H A->bP kQ A names.a ns)(M:∀n∈ns,n.size<=9223372036854775807)(o:to.size<=9223372036854775807)(b:Bd s x y)(hl:ns.length<=1000000)(hx:x<800000000000)(hy:y<50000000000)
  (hN:bN (aV W ns s).2.1<=N) (a1:N<=1000000000)
  (c:∀F' A,ao F' A p dp (cK s ns to W).1->Step F F' H A->K (((cK s ns to W).2.1:Int),(cK s ns to W).2.2) A):G7.sp (aE p) names to W H K:=by
 refine G7.of ?_;unfold G7.vc;refine aC rfl ?_;unfold cK at c;by_cases e:ns=[]
 ·rw[if_pos e] at c;refine aP (by rw[J,e];rfl) ?_;exact c F H hp (.refl _ _)
 rw[if_neg e] at c;have O:names.n≠0:=by rw[J];exact λq=>e (Om q)
 refine aC (by simpa using O) ?_;have t:=uF (W:=W) b hl (by omega);refine CW (W:=W) hp J L M b hl (by omega) (by omega) (λP F1 A a p1 S1=>?_) (λP F1 A col xs l i g R hlen=>?_)
 ·rw[if_pos P] at c;exact c F1 A p1 S1
 rw[if_neg (by rw[P];simp)] at c;rw[<-R] at c hN;generalize (aV W ns s).1=s1 at*;have q1:=t.lo;have q2:=t.hi;have q3:=t.aB;have bM:=t.make (n:=to) (W:=W) (by omega);refine xh g.pool o (by omega) (by omega) q1 t.fit (λI B p2 z D=>?_) (λI B kw w p2 z D w2 k1 k2=>?_)
 ·have S:=gN.1 D;have em:lJ (xs.map (·.r)) (bh s1 to W)=((bh s1 to W).1,0,(bh s1 to W).2.2):=by unfold lJ;rw[D]
  rw[em] at c;exact aP (by simpa using S) (c I B p2 (g.step.trans z))
 obtain⟨S,hw,W0,T⟩:=gN.2 w D;subst hw;rw[uX D] at c;generalize (bh s1 to W).1=s2 at*;rw[S];refine aC rfl ?_;have zR:=g.mod.size;have zS:=z.mod.size;have U:∀b,dr kw bk bk b->b=kw:=by
  rintro b (q|q|q)
  ·exact q
  ·exact absurd q (aS b)
  ·exact absurd q (aS b)
 obtain⟨h,c1,c2⟩:=ia col A.size I (λb=>b=kw) (λ_=>False) 0 2 1 (λb q r=>k2 (r▸q)) (λb q r=>r) (λb q r=>r);have V:=g.rV (col':=h) p2 z.mod (λb j q=>by rw[(g.cF b q).1];decide) (λb j q=>(g.cF b q).2.resolve_right (by omega)) (λb q=>by
  rcases z.own b q with r|r
  ·rw[c1 b (g.pool.lt b r)];exact g.cF b r
  ·exact⟨(c2 b r).1 q,.inr (by omega)⟩) λb j _=>c1 b j
 have hM:ua H F h p dp I B s2 xs l kw (vP to W) bk bk (Sl.mk none 0 0) [] (Sl.mk none 0 0) [] []:=by
  refine⟨V,w2,λb j=>?_,az.nil _ _ _,az.nil _ _ _,λb j=>?_,λi y hi=>by simp at hi⟩
  ·have:=U b j;subst this;exact⟨(c2 b k1).2.1 rfl,.inr (by omega)⟩
  ·exact absurd j λq=>q.elim (aS b) (aS b)
 have E:xs.length<=1000000:=by omega
 refine Cx hM bM (by omega) (by omega) E (λe2 X C r k p3 S3=>?_) λe2 X C G d hsl hd isl isb hs i Y h1 h2 h3 h4 h5 Z b3=>?_
 ·unfold zj at c;rw[if_pos e2] at c;exact c X C p3 S3
 ·unfold zj at c;rw[if_neg (by rw[e2];simp)] at c;have an:bN (d.map (·.r))+fP hs<=bN (xs.map (·.r)):=by
   rw[h1,h2];exact ki λr R=>by
    obtain⟨y,hy,rfl⟩:=List.mem_map.1 R;exact(g.oks y hy).1
  rw[<-h1,<-h2] at c;have af:tF H F p dp C l hsl isl kw to (bN (d.map (·.r))+fP hs+1) (x+2000002) (y+2000004) (fX (bN (d.map (·.r))+fP hs+1) (bc (xs.map (·.r)) s2).1 (d.map (·.r)) hs (vP to W)) (bN (d.map (·.r))+fP hs+1):=
   ⟨G,X,_,d,vP to W,bk,bk,hd,isb,hs,Y,h3,by rw[h4,Z],by rw[h5,Z],by rw[Z];exact E,Rn _,rfl,by rw[Nat.sub_self];exact wJ to W0 T,b3.mono (by omega) (by omega),N3 _⟩
  exact Cn o (by omega) (by omega) (by omega) af c
end
section
variable {H:aa}{k p dp:Nat}{t:So}{sw ss:Sl}{rs:List Sl}{F:Nat->Prop}{s:Pl}
theorem AY {a:Option Addr}{c lo n e g b:Nat}(h:ag (Sl.mk (cw a c lo 1) n g) b):ag (Sl.mk a e c) b:=by
 obtain⟨ad,d,e2⟩:=h;have d:cw a c lo 1=some ad:=d;unfold cw at d;split at d
 ·exact⟨ad,d,e2⟩
 ·cases a with
  |none=>cases d
  |some a0=>
    simp at d;exact⟨a0,rfl,by rw[<-e2,<-d,dy]⟩
set_option maxHeartbeats 1000000 in
theorem uw {K:(Int×Int)->aa->Prop}{c x y N:Nat}{to:ByteArray}(hg:Gl H)(a8:¬cd k sw rs ss bg)(h:qF H k p t sw rs ss)(hp:au F H p dp s)(dis:∀b,F b->¬cd k sw rs ss b)(hz:vF t)(Y:to.size<=9223372036854775807)(hc:c<=t.side.length)(b:Bd s x y)(Z:x+2*N<700000000000)(hy:y+3*N<40000000000)
  (hN:bN (aV t.width (t.side.take c) s).2.1<=N) (af:N<=1000000000)
  (hK:∀F' P H',au F' H' p dp (t.merge s c to).1->Ja H' k p (t.merge s c to).2.1 sw rs P->(∀b,ag P b->ag ss b)->Mod (λb=>F b\/b=k) H H'->(∀b,F' b->F b\/H.size<=b)->Bd (t.merge s c to).1 (x+2*N+3000) (y+3*N+9000)->K (((t.merge s c to).2.2.1:Int),(t.merge s c to).2.2.2) H'):IU.sp (aE k) (c:Int) to H K:=by
 refine IU.of ?_;unfold IU.vc;unfold aE;simp only[al];have U:=h.rd.n;have an:=hp.eL;refine h.rd.row.ld (c:=ak) (i:=5) (x:=ss) rfl ?_;refine⟨⟨by omega,by omega⟩,?_⟩;simp only[N5,Tr,AV];refine h.rd.row.ld (c:=av) (i:=0) (x:=aE p) rfl ?_;refine h.rd.row.ld (c:=ab .i64) (i:=2) (x:=t.width) rfl ?_;have bb:=hz.side;have R:(t.side.take c).length=c:=by rw[OO];omega
 have nM:∀b,ag ss b->¬F b:=λb d q=>dis b q (.inr (.inr (.inr d)));have S:∀A,Mod F H A->bP kQ A ss.a t.side:=λA m=>h.rd.names.keep λad V a=>m.same _ a λq=>nM _ ⟨ad,V,rfl⟩ q;refine Fs (names:=Sl.mk ss.a c ss.c) hg hp R.symm (λA m=>(S A m).take) (λn U=>hz.sizes n (Pb U)) Y b (by omega) (by omega) (by omega) hN af λF1 A p1 S1=>?_;have bM:=pq (to:=to) b (by omega) (by omega) hN p1.frames;unfold So.merge at hK;generalize cK s (t.side.take c) to t.width=m at*
 -- the side runs are dropped
 refine ar c (λi z B=>z.2=(i:Int)/\∃F' s',au F' B p dp s'/\Step F F' H B/\Bd s' (x+2*N+3000) (y+3*N+9000)/\fS (t.side.take c) m=(if z.1≠0 then (s',z.1) else je ((t.side.take c).drop i) s')) ⟨rfl,F1,m.1,p1,S1,bM,rfl⟩ ?_;rintro i ⟨e,j⟩ B next hi ⟨hj,F2,s2,p2,D,b2,G⟩ g
 simp only at hj;subst hj;simp only at G ⊢;have vO:aj B k vQ (ij p t sw ss):=h.rd.row.mod D.mod λq=>dis k q (.inl rfl);have a1:=hg.mod D.mod an;refine ah (λI=>?_) (λI=>?_)
 ·have a:i<c:=by
   have:(i:Int)<(c:Int):=by simpa using I
   omega
  have a6:(t.side.take c)[i]?=some ((t.side.take c)[i]'(by omega)):=N0 (by omega);have hd:(t.side.take c).drop i=(t.side.take c)[i]'(by omega)::(t.side.take c).drop (i+1):=OQ (by omega);rw[hd] at G;refine bP.one (E:=kQ) (c:=aK) (s:=Sl.mk ss.a c ss.c) (S B D.mod).take R.symm rfl a6 rfl ?_;rw[aD i (by omega)];refine ah (λJ=>?_) (λJ=>?_)
  ·have X:e=0:=by simpa using J
   rw[if_neg (by rw[X];simp)] at G;refine vO.ld (c:=av) (i:=0) (x:=aE p) rfl ?_;refine G3 a1 p2 λF3 C p3 S3=>?_;refine g a _ C ⟨rfl,F3,_,p3,D.trans S3,b2.cS,?_⟩;rw[G];rfl
  ·have X:e≠0:=by simpa using J
   rw[if_pos X] at G;refine g a _ B ⟨rfl,F2,s2,p2,D,b2,?_⟩;simp only;rw[if_pos X];exact G
 ·have a7:i=c:=by
   have:¬(i:Int)<(c:Int):=by simpa using I
   omega
  subst a7;have hd:(t.side.take i).drop i=[]:=List.drop_of_length_le (by omega);rw[hd] at G;have he:fS (t.side.take i) m=(s2,e):=by
   rw[G];by_cases q:e≠0
   ·rw[if_pos q]
   ·rw[if_neg q];simp only[je];rw[UH.1 q]
  rw[he] at hK;refine vO.ld (c:=ak) (i:=5) (x:=ss) rfl ?_;refine⟨⟨by omega,by omega⟩,?_⟩;refine aj.st vO (i:=5) (by simp[ij]) rfl λC rC mC zC=>?_;have L:Mod (λb=>F b\/b=k) H C:=(D.mod.mono λb _ q=>.inl q).trans' mC λb _ q=>.inr q;have T:¬F2 k:=λq=>(D.own k q).elim (λr=>dis k r (.inl rfl)) λr=>by have:=aA h.rd.row;omega
  have M:=h.nM;have O:=h.rd.jE;have o:∀b,cd k sw rs ss b->b≠k->¬(F b\/b=k):=λb d U q=>q.elim (λu=>dis b u d) U;refine hK F2 ⟨cw ss.a ss.c i 1,ss.n - i,ss.c - i⟩ C (p2.keep λb d a=>mC.same b a λq=>T (q▸d)) ⟨rC,?_,?_,⟨by show ss.n - i=(t.side.drop i).length;rw[Ph];omega,by show ss.n - i<=ss.c - i;omega⟩,h.rd.iB⟩ (λb d=>AY d) L D.own b2
  ·exact h.rd.wait.mod L (λb d=>o b (.inr (.inl d)) λq=>O (q▸d)) λx Z b d=>o b (.inr (.inr (.inl ⟨x,Z,d⟩))) λq=>h.rd.js x Z (q▸d)
  ·have r1:bP kQ C ss.a t.side:=h.rd.names.keep λad V a=>L.same _ a (o ad.block (.inr (.inr (.inr ⟨ad,V,rfl⟩))) λq=>M (q▸⟨ad,V,rfl⟩));exact r1.drop (E:=kQ) (by omega)
end
theorem ai.pure {c:eN}{P:Program}{f:FuncId}{args:Array Value}{H:aa}{Q:Prop}(h:ai c P f args H λ_ _=>Q):Q:=by
 obtain⟨e,w',fr,⟨v,he,⟨x,_,q⟩,_⟩,_⟩:=h {(default:World) with heap:=H} rfl [];exact q
theorem wO {n room m:Nat}(a:0<room)(h:da n room<=m):n<=room*m:=by
 unfold da at h;rcases ON (room*m) n with q|q
 ·have h1:room*(m+1)<=n+room - 1:=by rw[Nat.mul_succ];omega
  have:=(Nat.le_div_iff_mul_le a).2 (by rw[Ui];exact h1);omega
 ·exact q
theorem qe {s:Pl}{n:ByteArray}{W:Int}{r:RR}(h:(rnOpen s n W).2.1=some r)(hw:(rnOpen s n W).1.d.WF):r.rows<=(aH W).toNat*1048576:=by
 obtain⟨a,b⟩:=cV ⟨n,W,0,false⟩;simp only at a;unfold rnOpen at h hw;split at h
 ·cases h
 ·rename_i c;rw[if_neg c] at hw;split at h
  ·cases h
  ·rename_i h1;rw[if_neg h1] at hw;split at h
   ·cases h
   ·rename_i e;rw[if_neg e] at hw;split at h
    ·cases h
    ·rename_i g;rw[if_neg g] at hw;split at h
     ·rename_i i;rw[if_pos i] at hw;cases h;have:=Dk.jV hw n;simp only at this;exact wO (n:=(bY (eG ((s.look n 0).2.2.1.drop 1))).toNat) (m:=1048576) (by show 0<(aH W).toNat;omega) (by omega)
     ·cases h
section
variable {p dp:Nat}{W:Int}
theorem td {x y:Nat}:∀{ns:List ByteArray} {s:Pl} {x y:Nat} {F:Nat->Prop} {A:aa},Gl A->au F A p dp s->Bd s x y->x+ns.length<900000000000->y+ns.length<60000000000->(∀n∈ns,n.size<=9223372036854775807)->bN (aV W ns s).2.1<=ns.length*((aH W).toNat*1048576)
 |[],s,x,y,F,A,_,_,_,_,_,_=>by simp[aV,bN]
 |n::ns,s,x,y,F,A,a,c,b,h,i,hs=>by
   rw[OF] at h i ⊢;have j:=b.lo;have z:=b.hi;have C:=b.aB;have ⟨F',B,g,o⟩:∃F' B,au F' B p dp (rnOpen s n W).1/\Gl B:=ai.pure (H:=A) (sS (W:=W) a c (hs n Oq) (by omega) (by omega) j (λF' B p1 d _=>⟨F',B,p1,a.mod d.mod c.eL⟩) λF' B k r p1 d _ _ _ _=>⟨F',B,p1,a.mod d.mod c.eL⟩);simp only[aV];split
   ·simp[bN]
   ·rename_i r e;have h1:=qe e g.Mi;have q:=td (x:=x) (y:=y) (ns:=ns) o g (b.open (n:=n) (W:=W) (by omega)) (by omega) (by omega) λm hm=>hs m (Oh _ hm);simp only[bN,Ol,O8] at q ⊢;rw[O7];omega
end
def sU (p dp:Nat)(W:Int)(S N:Nat):Prop:=∀(F:Nat->Prop) (A:aa) (s:Pl) (x y:Nat) (l:List ByteArray),Gl A->au F A p dp s->Bd s x y->x<800000000000->y<50000000000->l.length<=S->(∀n∈l,n.size<=9223372036854775807)->bN (aV W l s).2.1<=N
theorem LH {p dp S N:Nat}{W:Int}(d:S<=100000)(h:S*((aH W).toNat*1048576)<=N):sU p dp W S N:=λF A s x y l a c b e g hl hs=>
 Oo (Oo (td (x:=x) (y:=y) a c b (by omega) (by omega) hs) (OE _ hl)) h
def So.jv (N:Nat):Nat->So->Pl->Prop
 |0,_,_=>True
 |f+1,t,s=>t.frames<=(t.side.length:Int)->bN (aV t.width (t.side.take (t.frames - 1).toNat) s).2.1<=N/\((t.round s).2.2.2=0->So.jv N f {(t.round s).2.1 with side:=t.side.drop (t.frames - 1).toNat++[bU t.name t.next]} (t.round s).1)
def So.DS (N:Nat)(r:Pl×So×Int):Prop:=r.2.2=0->bN (aV r.2.1.width (r.2.1.side.take r.2.1.side.length) r.1).2.1<=N
def So.DL (N:Nat)(r:Pl×So×Int):Prop:=r.2.2=0->r.2.1.jv N r.2.1.side.length r.1/\So.DS N (r.2.1.rounds r.2.1.side.length r.1)
section
variable {H:aa}{k p dp:Nat}{t:So}{sw ss:Sl}{rs:List Sl}{F:Nat->Prop}{s:Pl}
theorem yP {sl:Sl}{l:List ByteArray}{K:Sl->aa->Prop}(h:bP kQ H sl.a l)(i:sl.n=l.length)(hl:l.length<=1000000)
  (g:∀s' H',az kQ dH H' s' l->Ext H H'->(∀b,ag s' b->H.size<=b)->K s' H'):Jz.sp sl H K:=by
 refine Jz.of ?_;unfold Jz.vc;refine ah (λa=>?_) (λa=>?_)
 ·have:l=[]:=by
   cases l with
   |nil=>rfl
   |cons x r=>
     obtain⟨ad,j⟩:=h.addr (by decide) (by simp);rw[j] at a;cases a
  subst this;exact g _ H (az.nil _ _ _) (.refl _ _) (by rintro b ⟨ad,q,_⟩;cases q)
 ·refine ax λH1 s1 o m1=>?_;have y:az kQ dH H1 (Sl.mk (some ⟨H.size,0,none⟩) 0 0) []:=⟨rfl,.inr ⟨H.size,0,#[],rfl,On _,o,N3 _,by unfold maxLen;omega,rfl,rfl⟩⟩;have h1:bP kQ H1 sl.a l:=h.keep λad _ c=>m1.same _ c id;refine az.append (E:=kQ) (s:=Sl.mk (some ⟨H.size,0,none⟩) 0 0) (x:=sl) (l:=[]) (r:=l) CD y h1 i (by simp;omega) (by simp;omega) λs' H' z g' _=>?_;refine g s' H' (by simpa using z) ⟨Oo m1.size g'.1.size,λb d _=>(g'.1.same b (by omega) (by rintro⟨ad,e,e2⟩;cases e;have:H.size=b:=e2;omega)).trans (m1.same b d id)⟩ λb d=>?_;rcases g'.2 b d with ⟨ad,e,e2⟩|q
  ·cases e;have:H.size=b:=e2;omega
  ·omega
theorem mU {a:Sl}{b:Nat}(h:cd k sw rs a b)(hs:∀b,ag a b->ag ss b):cd k sw rs ss b:=by
 rcases h with q|q|q|q
 ·exact .inl q
 ·exact .inr (.inl q)
 ·exact .inr (.inr (.inl q))
 ·exact .inr (.inr (.inr (hs b q)))
set_option maxRecDepth 100000 in
set_option maxHeartbeats 2000000 in
theorem Ky {K:(Int×Int)->aa->Prop}{x y N R:Nat}(hg:Gl H)(a7:¬cd k sw rs ss bg)(h:qF H k p t sw rs ss)(hp:au F H p dp s)(dis:∀b,F b->¬cd k sw rs ss b)(hz:vF t)(c3:t.next+t.side.length+2<=100)(c4:3<=t.frames)(b:Bd s x y)(hR:t.side.length+2<=R)(c5:N<=1000000000)(hx:x+400010+R*(2*N+3000)<=600000000000)(hy:y+805000+R*(3*N+9000)<=39000000000)
  (hle:So.DL N (t.first s)\/sU p dp t.width (t.side.length+1) N)
  (U:∀F' g j d H',au F' H' p dp (So.goes (t.first s)).1->Ja H' k p (So.goes (t.first s)).2.1 g j d->(∀b,F' b->¬cd k g j d b)->Step (λb=>F b\/cd k sw rs ss b) (λb=>F' b\/cd k g j d b) H H'->Bd (So.goes (t.first s)).1 (x+400010+R*(2*N+3000)) (y+805000+R*(3*N+9000))->K (((So.goes (t.first s)).2.2.1:Int),(So.goes (t.first s)).2.2.2) H'):JI.sp (aE k) H K:=by
 refine JI.of ?_;unfold JI.vc;unfold aE;simp only[al];have b3:=hg.lt;have bC:=h.rd.wait.n;refine⟨λ_ B=>(t.first s).2.2=0/\∃F' g j d,au F' B p dp (t.first s).1/\qF B k p (t.first s).2.1 g j d/\(∀b,F' b->¬cd k g j d b)/\Step (λb=>F b\/cd k sw rs ss b) (λb=>F' b\/cd k g j d b) H B/\Bd (t.first s).1 (x+400010) (y+805000)/\vF (t.first s).2.1/\(t.first s).2.1.next+(t.first s).2.1.side.length<=100/\(t.first s).2.1.frames=t.frames/\(t.first s).2.1.side.length<=t.side.length+1/\(t.first s).2.1.width=t.width,?_,?_⟩
 ·have aside:∀(Kb:Int->aa->Prop),(t.wait≠[]\/t.side=[])->(∀e B,e≠0->K (0,e) B->Kb e B)->(∀B,((t.first s).2.2=0/\∃F' g j d,au F' B p dp (t.first s).1/\qF B k p (t.first s).2.1 g j d/\(∀b,F' b->¬cd k g j d b)/\Step (λb=>F b\/cd k sw rs ss b) (λb=>F' b\/cd k g j d b) H B/\Bd (t.first s).1 (x+400010) (y+805000)/\vF (t.first s).2.1/\(t.first s).2.1.next+(t.first s).2.1.side.length<=100/\(t.first s).2.1.frames=t.frames/\(t.first s).2.1.side.length<=t.side.length+1/\(t.first s).2.1.width=t.width)->Kb 0 B)->
    E6.sp (some ⟨k,0,none⟩) H Kb:=λKb T k1 k2=>by
   have ef:t.first s=t.aside s:=if_pos T;rw[ef] at U k2;refine wX hg a7 h hp dis hz b (by omega) (by omega) λF' d B pB O dB L=>?_;have dc:=jH t.wait;have hw:=hz.wait;have bd:Bd (t.aside s).1 (x+400010) (y+805000):=(rZ b (by omega) pB.frames).mono (by omega) (by omega);by_cases X:(t.aside s).2.2=0
   ·rw[X];refine k2 B ⟨X,F',bk,[],d,pB,O,dB,L,bd,⟨hz.name,On _,?_,λn V=>?_,?_,hz.frames⟩,?_,rfl,?_,rfl⟩
    ·show (t.side++[_]).length<=1000;simp;omega
    ·rcases N6.1 (show n∈t.side++[bU t.name t.next] from V) with u|u
     ·exact hz.sizes n u
     ·rw[Oj] at u;subst u;have:=cI hz.next;have:=hz.name;rw[dQ];omega
    ·show t.next+1<100;omega
    ·show t.next+1+(t.side++[_]).length<=100;simp;omega
    ·show (t.side++[_]).length<=t.side.length+1;simp
   ·unfold So.goes at U;rw[if_pos X] at U;exact k1 _ B X (U F' bk [] d B pB O.rd dB L (bd.mono (by omega) (by omega)))
  refine h.rd.row.ld (c:=ak) (i:=4) (x:=sw) rfl ?_;refine ah (λT=>?_) (λT=>?_)
  ·have hw:t.wait≠[]:=λq=>by rw[q] at bC;rw[bC] at T;simp at T
   exact aside _ (.inl hw) (λe B X q=>aP (by simpa using X) q) λB q=>aC rfl q
  ·have hw:t.wait=[]:=by
    have:¬(sw.n:Int)>0:=by simpa using T
    exact Om (by omega)
   refine h.rd.row.ld (c:=ak) (i:=5) (x:=ss) rfl ?_;have V:=h.rd.n.1;refine ah (λT=>?_) (λT=>?_)
   ·have hs:t.side=[]:=by
     have:(ss.n:Int)=0:=by simpa using T
     exact Om (by omega)
    exact aside _ (.inr hs) (λe B X q=>aP (by simpa using X) q) λB q=>aC rfl q
   ·have hs:t.side≠[]:=λq=>by rw[q] at V;rw[V] at T;simp at T
    have ef:t.first s=(s,t,0):=if_neg (by rintro(q|q);exact q hw;exact hs q);rw[ef];exact⟨rfl,F,sw,rs,ss,hp,h,dis,.refl _ _,b.mono (by omega) (by omega),hz,by show t.next+t.side.length<=100;omega,rfl,OR _,rfl⟩
 ·rintro _ A ⟨X,F1,b4,b5,b6,pA,sA,dA,SA,bA,zA,nA,fA,lA,wA⟩;have Y:((t.first s).2.1.jv N (t.first s).2.1.side.length (t.first s).1/\So.DS N ((t.first s).2.1.rounds (t.first s).2.1.side.length (t.first s).1))\/sU p dp t.width (t.side.length+1) N:=hle.imp (λh=>h X) id;have eg:So.goes (t.first s)=So.last ((t.first s).2.1.rounds (t.first s).2.1.side.length (t.first s).1):=if_neg (by rw[X];simp);rw[eg] at U;generalize hl:(t.first s).2.1.side.length=f0 at*;have b9:(t.first s).2.1.side.length<=f0:=Ue hl;have bM:f0+1<=R:=by omega
  generalize (t.first s).2.1=t1 at*;generalize (t.first s).1=s1 at*;have hmul:(f0+1)*(2*N+3000)<=R*(2*N+3000):=OE _ bM;have a8:(f0+1)*(3*N+9000)<=R*(3*N+9000):=OE _ bM;rw[O7] at hmul a8;have bO:t1.jv N f0 s1\/sU p dp t.width (t.side.length+1) N:=Y.imp And.left id;refine⟨Nat,λf _ B=>∃F' g j d t' s' xx yy,au F' B p dp s'/\qF B k p t' g j d/\(∀b,F' b->¬cd k g j d b)/\Step (λb=>F b\/cd k sw rs ss b) (λb=>F' b\/cd k g j d b) H B/\Bd s' xx yy/\xx+f*(2*N+3000)<=x+400010+f0*(2*N+3000)/\yy+f*(3*N+9000)<=y+805000+f0*(3*N+9000)/\vF t'/\t'.next+t'.side.length<=100/\t'.frames=t.frames/\t'.side.length<=f/\f<=f0/\t'.width=t.width/\t1.rounds f0 s1=t'.rounds f s'/\(t'.jv N f s'\/sU p dp t.width (t.side.length+1) N),λf=>f,
   ⟨f0,F1,b4,b5,b6,t1,s1,x+400010,y+805000,pA,sA,dA,SA,bA,N3 _,N3 _,zA,by rw[hl];exact nA,fA,b9,N3 _,wA,rfl,bO⟩,?_⟩
  rintro f _ B ⟨F2,o,z,P,t2,s2,xx,yy,pB,O,dB,L,bB,bx,cb,J,nB,fB,lB,ff,wB,eB,b0⟩;have Z:Gl B:=hg.keep (L.mod.same _ b3 λq=>q.elim hp.eL a7);have af:¬cd k o z P bg:=λq=>by
   rcases L.own _ (.inr q) with u|u
   ·exact u.elim hp.eL a7
   ·omega
  have ck:=O.rd.n.1;refine O.rd.row.ld (c:=ak) (i:=5) (x:=P) rfl ?_;refine O.rd.row.ld (c:=ab .i64) (i:=3) (x:=t2.frames) rfl ?_;refine ah (λT=>?_) (λT=>?_)
  ·have bb:t2.frames<=(t2.side.length:Int):=by
    have:(P.n:Int)>=t2.frames:=by simpa using T
    omega
   cases f with
   |zero=>exact absurd lB (by omega)
   |succ f=>
   rw[O7] at bx cb;have cm:bN (aV t2.width (t2.side.take (t2.frames - 1).toNat) s2).2.1<=N:=b0.elim (λh=>(h bb).1) λh=>by
    rw[wB];exact h F2 B s2 xx yy _ Z pB bB (by omega) (by omega) (by rw[OO];omega) λn V=>J.sizes n (Pb V)
   have cx:(t2.round s2).2.2.2=0->So.jv N f {(t2.round s2).2.1 with side:=t2.side.drop (t2.frames - 1).toNat++[bU t2.name t2.next]} (t2.round s2).1\/sU p dp t.width (t.side.length+1) N:=λe=>b0.imp (λh=>(h bb).2 e) id;have er:t2.rounds (f+1) s2=if (t2.round s2).2.2.2≠0 then ((t2.round s2).1,(t2.round s2).2.1,(t2.round s2).2.2.2) else So.rounds f {(t2.round s2).2.1 with side:=t2.side.drop (t2.frames - 1).toNat++[bU t2.name t2.next]} (t2.round s2).1:=if_pos bb
   have dk:t2.next<98:=by omega
   refine qC O.rd.row (by omega) J.name λC rC mC zC=>?_;have b1:¬F2 k:=λq=>dB k q (.inl rfl);have bl:=O.rd.jE;have bn:=O.nM;have sC:qF C k p (t2.to (t2.next+1)) o z P:=.mk' rC (O.rd.wait.mod mC (λb a q=>bl (q▸a)) λx hx b a q=>O.rd.js x hx (q▸a)) (O.side.mod mC λb a q=>bn (q▸a)) O.rd.iB;have pC:au F2 C p dp s2:=pB.keep λb a an=>mC.same b an λq=>b1 (q▸a);have gC:Gl C:=Z.keep (mC.same _ Z.lt λq=>af (.inl q));refine rC.ld (c:=ab .i64) (i:=3) (x:=t2.frames) rfl ?_;have hf:=J.frames;have ec:NY.wrap (t2.frames - 1)=(((t2.frames - 1).toNat:Nat):Int):=by rw[wrap64 (by omega) (by omega)];omega
   rw[ec];have cy:vF (t2.to (t2.next+1)):=⟨J.name,J.wait,J.side,J.sizes,by show t2.next+1<100;omega,J.frames⟩;refine uw (t:=t2.to (t2.next+1)) (c:=(t2.frames - 1).toNat) gC af sC pC dB cy (by have:=cI J.next;have:=J.name;rw[dQ];omega) (by show (t2.frames - 1).toNat<=t2.side.length;omega) bB (by omega) (by omega) cm (by omega) λF3 M D pD sD oD mD wD bD=>?_;have em:(t2.to (t2.next+1)).merge s2 (t2.frames - 1).toNat (bU t2.name t2.next)=t2.round s2:=rfl;rw[em] at pD sD bD ⊢;have dn:=mC.size;have SD:Step (λb=>F2 b\/cd k o z P b) (λb=>F3 b\/cd k o z M b) B D:=by
    refine⟨(mC.mono λb _ q=>.inr (.inl q)).trans' mD λb _ q=>q.elim .inl λu=>.inr (.inl u),λb a=>?_⟩;rcases a with u|u
    ·rcases wD b u with v|v
     ·exact .inl (.inl v)
     ·exact .inr (by omega)
    ·exact .inl (.inr (mU u oD))
   have dD:∀b,F3 b->¬cd k o z M b:=λb a q=>by
    have q2:=mU q oD;rcases wD b a with v|v
    ·exact dB b v q2
    ·have:=sC.lt b q2;omega
   by_cases ee:(t2.round s2).2.2.2=0
   ·rw[if_neg (by rw[ee];simp)] at er;refine aC (by rw[ee];rfl) ?_;have e3:(t2.round s2).2.1={t2.to (t2.next+1) with side:=t2.side.drop (t2.frames - 1).toNat}:=rfl;have S:Ja D k p {t2.to (t2.next+1) with side:=t2.side.drop (t2.frames - 1).toNat} o z M:=sD;refine S.row.ld (c:=ak) (i:=5) (x:=M) rfl ?_;have hsl:=J.side;refine yP S.names S.n.1 (by show (t2.side.drop _).length<=_;rw[Ph];omega) λcz E oE eE fE=>?_;refine az.push (E:=kQ) (x:=bU t2.name t2.next) CD oE rfl (by show (t2.side.drop _).length+1<=_;rw[Ph];omega) (by show ((t2.side.drop _).length+1)*_<=_;rw[Ph];omega) λa1 G oG gG _=>?_;have kD:=aA S.row;have k5:¬ag a1 k:=λq=>by
     rcases gG.2 k q with u|u
     ·have:=fE k u;omega
     ·have:=eE.size;omega
    have k4:¬ag cz k:=λq=>by have:=fE k q;omega
    have rG:aj G k vQ (ij p {t2.to (t2.next+1) with side:=t2.side.drop (t2.frames - 1).toNat} o M):=(S.row.ext eE).mod gG.1 k4;refine aj.st rG (i:=5) (by simp[ij]) rfl λI rI mI zI=>?_;have zE:=eE.size;have zG:=gG.1.size;have bs:Mod (λb=>b=k) D I:=by
     refine⟨by have:=mI.size;omega,λb a V=>?_⟩;rw[mI.same b (by omega) V,gG.1.same b (by omega) (λq=>by have:=fE b q;omega),eE.same b a id]
    have a6:∀b,ag a1 b->D.size<=b:=λb a=>by
     rcases gG.2 b a with u|u
     ·exact fE b u
     ·omega
    have sI:qF I k p {(t2.round s2).2.1 with side:=t2.side.drop (t2.frames - 1).toNat++[bU t2.name t2.next]} o z a1:=by
     refine .mk' rI ?_ (oG.mod mI λb a q=>k5 (q▸a)) O.rd.iB;exact S.wait.mod bs (λb a q=>S.jE (q▸a)) λx hx b a q=>S.js x hx (q▸a)
    have b2:¬F3 k:=λq=>dD k q (.inl rfl);have z3:=mD.size;refine⟨f,⟨F3,o,z,a1,_,(t2.round s2).1,xx+2*N+3000,yy+3*N+9000,pD.keep λb a an=>bs.same b an λq=>b2 (q▸a),sI,λb a q=>?_,?_,bD,by omega,by omega,⟨J.name,J.wait,?_,λn V=>?_,by show t2.next+1<100;omega,J.frames⟩,?_,fB,?_,by omega,wB,?_,cx ee⟩,Rn _⟩
    ·rcases q with u|u|u|u
     ·exact dD b a (.inl u)
     ·exact dD b a (.inr (.inl u))
     ·exact dD b a (.inr (.inr (.inl u)))
     ·have:=a6 b u;have:=pD.lt b a;omega
    ·have cB:=L.mod.size;refine⟨(L.mod.trans' SD.mod λb a q=>?_).trans' bs λb a q=>?_,λb a=>?_⟩
     ·rcases L.own b q with u|u
      ·exact u
      ·omega
     ·rcases L.own b (.inr (.inl q)) with u|u
      ·exact u
      ·omega
     ·have up:∀b,(F3 b\/cd k o z M b)->(F b\/cd k sw rs ss b)\/H.size<=b:=λb a=>by
       rcases SD.own b a with u|u
       ·exact L.own b u
       ·exact .inr (by omega)
      rcases a with u|u|u|u|u
      ·exact up b (.inl u)
      ·exact up b (.inr (.inl u))
      ·exact up b (.inr (.inr (.inl u)))
      ·exact up b (.inr (.inr (.inr (.inl u))))
      ·exact .inr (by have:=a6 b u;omega)
    ·show (t2.side.drop _++[_]).length<=1000;simp;omega
    ·rcases N6.1 (show n∈t2.side.drop (t2.frames - 1).toNat++[bU t2.name t2.next] from V) with u|u
     ·exact J.sizes n (QE u)
     ·rw[Oj] at u;subst u;have:=cI J.next;have:=J.name;rw[dQ];omega
    ·show t2.next+1+(t2.side.drop _++[_]).length<=100;simp;omega
    ·show (t2.side.drop _++[_]).length<=f;simp;omega
    ·rw[eB,er]
   ·rw[if_pos ee] at er;rw[eB,er] at U;unfold So.last at U;rw[if_pos ee] at U;refine aP (by simpa using ee) (U F3 o z M D pD sD dD ⟨L.mod.trans' SD.mod λb a q=>(L.own b q).resolve_right (by omega),λb a=>?_⟩ (bD.mono (by omega) (by omega)));rcases SD.own b a with u|u
    ·exact L.own b u
    ·have:=L.mod.size;exact .inr (by omega)
  ·have an:¬t2.frames<=(t2.side.length:Int):=by
    have:¬(P.n:Int)>=t2.frames:=by simpa using T
    omega
   have er:t2.rounds f s2=(s2,t2,0):=by
    cases f with
    |zero=>rfl
    |succ f=>exact if_neg an
   rw[eB,er] at U Y;have c0:bN (aV t2.width (t2.side.take t2.side.length) s2).2.1<=N:=Y.elim (λh=>h.2 rfl) λh=>by
    rw[wB];exact h F2 B s2 xx yy _ Z pB bB (by omega) (by omega) (by rw[OO];omega) λn V=>J.sizes n (Pb V)
   unfold So.last at U;rw[if_neg (by simp)] at U;refine O.rd.row.ld (c:=ak) (i:=5) (x:=P) rfl ?_;refine O.rd.row.ld (c:=aK) (i:=1) (x:=t2.name) rfl ?_;rw[ck];have:0<=f*(2*N+3000):=On _;have:0<=f*(3*N+9000):=On _;refine uw (c:=t2.side.length) Z af O pB dB J (by have:=J.name;omega) (N3 _) bB (by omega) (by omega) c0 (by omega) λF3 M D pD sD oD mD wD bD=>?_;have cB:=L.mod.size;refine U F3 o z M D pD sD (λb a q=>?_) ⟨L.mod.trans' mD λb a q=>?_,λb a=>?_⟩ (bD.mono (by omega) (by omega))
   ·have q2:=mU q oD;rcases wD b a with v|v
    ·exact dB b v q2
    ·have:=O.lt b q2;omega
   ·have:F2 b\/cd k o z P b:=q.elim .inl λu=>.inr (.inl u);exact(L.own b this).resolve_right (by omega)
   ·rcases a with u|u
    ·rcases wD b u with v|v
     ·exact L.own b (.inl v)
     ·exact .inr (by omega)
    ·exact L.own b (.inr (mU u oD))
set_option maxRecDepth 100000 in
theorem Eb {K:(Int×Int)->aa->Prop}{x y N R:Nat}(hg:Gl H)(G:¬cd k sw rs ss bg)(h:qF H k p t sw rs ss)(X:au F H p dp s)(dis:∀b,F b->¬cd k sw rs ss b)(hz:vF t)(C:t.next+t.side.length+2<=100)(I:3<=t.frames)(b:Bd s x y)(hR:t.side.length+2<=R)(J:N<=1000000000)(hx:x+400010+R*(2*N+3000)<=600000000000)(hy:y+805000+R*(3*N+9000)<=39000000000)
  (hle:t.ready=0->So.DL N (t.first s)\/sU p dp t.width (t.side.length+1) N)
  (a:∀F' c D d H',au F' H' p dp (t.done s).1->aj H' k vQ (ij p (t.done s).2.1 c d)->(∀b,F' b->¬cd k c D d b)->Step (λb=>F b\/cd k sw rs ss b) (λb=>F' b\/cd k c D d b) H H'->Bd (t.done s).1 (x+400010+R*(2*N+3000)) (y+805000+R*(3*N+9000))->K (((t.done s).2.2.1:Int),(t.done s).2.2.2) H'):CH.sp (aE k) H K:=by
 refine CH.of ?_;unfold CH.vc;refine kf h.rd.row ?_;unfold So.done at a;refine ah (λe=>?_) (λe=>?_)
 ·rw[if_pos (by simpa using e)] at a;exact a F sw rs ss H X h.rd.row dis (.refl _ _) (b.mono (Oo (PV x 400010) (PV _ _)) (Oo (PV y 805000) (PV _ _)))
 have Y:¬t.ready≠0:=by simpa using e
 rw[if_neg Y] at a;refine Ky hg G h X dis hz C I b hR J hx hy (hle (UH.1 Y)) λE g j o A pA Z L M bA=>?_;unfold aE;simp only[al];unfold So.ends at a;have go:∀(B:aa),Mod (λb=>b=k) A B->B.size=A.size->au E B p dp (So.goes (t.first s)).1/\Step (λb=>F b\/cd k sw rs ss b) (λb=>E b\/cd k g j o b) H B:=λB m z=>
  ⟨pA.keep λb hb O=>m.same b O λq=>L b hb (.inl q),⟨M.mod.trans' m λb hb q=>(M.own b (.inr (.inl q))).resolve_right (by omega),M.own⟩⟩
 refine ah (λe=>?_) (λe=>?_)
 ·rw[if_pos (by simpa using e)] at a;refine aj.st Z.row (i:=7) (by simp[ij]) rfl λB P S T=>?_;obtain⟨U,V⟩:=go B S T;exact a E g j o B U P L V bA
 ·rw[if_neg (by simpa using e)] at a;refine aj.st Z.row (i:=8) (by simp[ij]) rfl λB P S T=>?_;obtain⟨U,V⟩:=go B S T;exact a E g j o B U P L V bA
end
theorem pS {P:Program}(w:World)(t ty e:TypeId)(i:TypeInfo)(z:P.underlying t=some (.slice e))(hi:P.info? e=some i)
  (g o b d:Nat) (cur:Array Value) (C:w.heap[g]?=some (.cells cur e (0,0)))
  (a:Addr) (m c:Nat) (news:List Value) (hl:news.length=m*i.size) (h:∀j u,news[j]?=some u->w.cell? (a.add j)=some u) (h1:∀u∈news,u.oneCell'=true)
  (q:b+m<=d) (x:o+b*i.size+news.length<=cur.size):
  (N2 #[t,t] ty #[.slice (some ⟨g,o,none⟩) b d,.slice (some a) m c]).run P w=
   .ok (.slice (some ⟨g,o,none⟩) (b+m) d) (w.setRow g (cur.toList.take (o+b*i.size)++news++cur.toList.drop (o+b*i.size+news.length)).toArray):=by
 have D:=run_firstCells_some (P:=P) w i.size m a m c news hl h;have y:=run_storeCells_at P g (o+b*i.size) e news 0 cur w C (by simpa using x) h1;simp only[Rt] at y;simp[N2,run_underlying z,sizeOf,typeInfo,hi,VQ,q,D,Addr.add_lit,y]
structure nK (H:aa)(s:Sl)(l:List ByteArray):Prop where
 n:s.n=l.length
 at_:(s=⟨none,0,0⟩/\l=[])\/∃g o cur,s.a=some ⟨g,o,none⟩/\H[g]?=some (.cells cur dH (0,0))/\s.n<=s.c/\s.c<=maxLen/\o+s.c<=cur.size/\(cur.toList.drop o).take s.n=l.map Ps
theorem j5 (l:List ByteArray):kQ.all l=l.map Ps:=by
 induction l with
 |nil=>rfl
 |cons a l b=>
   have:kQ.all (a::l)=Ps a::kQ.all l:=rfl;rw[this,b];rfl
section
variable {H B:aa}{s:Sl}{l:List ByteArray}
theorem nK.nil (H:aa):nK H (Sl.mk none 0 0) []:=⟨rfl,.inl ⟨rfl,rfl⟩⟩
theorem nK.of (h:az kQ dH H s l):nK H s l:=by
 have j:=az.n h (by decide);refine⟨j,?_⟩;have b:=h.2;rw[j5] at b;have o:kQ.size=1:=rfl;rw[o] at b;rcases b with ⟨e,y⟩|⟨g,cap,cur,e,_,q,d,x,z,i⟩
 ·left;refine⟨?_,Om (by omega)⟩;obtain⟨a,n,c⟩:=s;simp only[Sl.v,Oi] at e;obtain⟨rfl,rfl,rfl⟩:=e;rfl
 ·right;obtain⟨a,n,c⟩:=s;simp only[Sl.v,Oi] at e;obtain⟨rfl,_,rfl⟩:=e;simp only at d i ⊢;exact⟨g,0,cur,rfl,q,d,x,by omega,by rw[List.drop_zero];simpa using i⟩
theorem nK.cap (h:nK H s l):s.n<=s.c:=by
 rcases h.at_ with ⟨e,_⟩|⟨g,o,cur,_,_,a,_⟩
 ·rw[e];exact N3 _
 ·exact a
theorem nK.obj (h:nK H s l):∀b,ag s b->∃cur,H[b]?=some (.cells cur dH (0,0)):=by
 rintro b ⟨ad,a,rfl⟩;rcases h.at_ with ⟨e,_⟩|⟨g,o,cur,e,c,_⟩
 ·rw[e] at a;cases a
 ·rw[e] at a;cases a;exact⟨cur,c⟩
theorem nK.lt (h:nK H s l):∀b,ag s b->b<H.size:=λb a=>by
 obtain⟨cur,c⟩:=h.obj b a;exact(Array.getElem?_eq_some_iff.1 c).1
theorem nK.mod {G:Nat->Prop}(h:nK H s l)(m:Mod G H B)(a:∀b,ag s b->¬G b):nK B s l:=by
 refine⟨h.n,h.at_.imp id ?_⟩;rintro⟨g,o,cur,e,c,r⟩;have own:ag s g:=⟨_,e,rfl⟩;exact⟨g,o,cur,e,(m.same g (h.lt g own) (a g own)).trans c,r⟩
theorem nK.apart {base:Nat}{e:TypeId}{size:Nat}{s':Sl}{xs:List Value}(h:nK H s l)(k:aM H base e size s' xs)(a:dH≠e):∀b,ag s b->¬ag s' b:=λb h1 c=>by
 obtain⟨c1,d⟩:=h.obj b h1;obtain⟨c2,g⟩:=k.obj b c;exact a (aF d g)
theorem nK.rd (h:nK H s l):bP kQ H s.a l:=by
 intro i v a;rw[j5] at a;rcases h.at_ with ⟨_,e⟩|⟨g,o,cur,e,b,d,j,q,c⟩
 ·rw[e] at a;simp at a
 ·refine⟨_,e,?_⟩;rw[add_lit];refine cp b ?_;rw[<-c,List.getElem?_take] at a;split at a
  ·rw[Pw] at a;simpa using a
  ·cases a
theorem nK.cut (h:nK H s l){k:Nat}(hk:k<=l.length):nK H ⟨cw s.a s.c k 1,s.n - k,s.c - k⟩ (l.drop k):=by
 have i:=h.n;refine⟨by rw[Ph];show s.n - k=_;omega,?_⟩;rcases h.at_ with ⟨e,c⟩|⟨g,o,cur,e,b,x,y,z,d⟩
 ·subst c;have:k=0:=by simpa using hk
  subst this;left;rw[e];exact⟨rfl,rfl⟩
 ·right;have hd:∀j,(cur.toList.drop (o+j)).take (s.n - j)=(l.drop j).map Ps:=λj=>by
   rw[<-QT,<-Vf,d,List.map_drop]
  by_cases q:s.c=k
  ·have a:s.n - k=0:=by omega
   refine⟨g,o,cur,?_,b,by show s.n - k<=s.c - k;omega,by show s.c - k<=_;omega,by show o+(s.c - k)<=_;omega,?_⟩
   ·show cw s.a s.c k 1=_;unfold cw;rw[if_pos q];exact e
   ·show (cur.toList.drop o).take (s.n - k)=_;rw[<-hd k,a];rfl
  ·refine⟨g,o+k,cur,?_,b,by show s.n - k<=s.c - k;omega,by show s.c - k<=_;omega,by show o+k+(s.c - k)<=_;omega,hd k⟩;show cw s.a s.c k 1=_;unfold cw;rw[if_neg q,e];simp[add_lit]
theorem Ch {x:ByteArray}{p:Addr}{ty:TypeId}{K:Sl->aa->Prop}(h:nK H s l)(V:cJ H p=some (.string x))(hl:l.length+1<=1000000)
  (N:∀s' B,nK B s' (l++[x])->Mod (ag s) H B->(∀b,ag s' b->ag s b\/H.size<=b)->K s' B):
  ba ak NX (N2 #[dS,dS] ty #[s.v,.slice (some p) 1 1]) H K:=by
 rcases h.at_ with ⟨e,Z⟩|⟨g,o,cur,e,X,h3,h4,h5,h6⟩
 ·subst Z;subst e;refine az.append (E:=kQ) (s:=Sl.mk none 0 0) (x:=⟨some p,1,1⟩) (l:=[]) (r:=[x]) CD (az.nil _ _ _) (λi v G=>?_) rfl (by simp) (by simp) λs' B o g _=>N s' B (.of o) g.1 g.2;cases i with
  |zero=>
    rw[j5] at G;simp at G;subst G;exact⟨p,rfl,by rw[add_zero'];exact V⟩
  |succ i=>rw[j5] at G;simp at G
 obtain⟨inf,z,Y,hi,hz,O,hs,R,_⟩:=CD;have y:=h.n;have hlen:(l.map Ps).length=s.n:=by rw[OL];exact y.symm
 intro w hw;subst hw;obtain⟨sa,a,q⟩:=s;simp only[Sl.v] at*;subst e;have c:∀j u,[Ps x][j]?=some u->w.cell? (p.add j)=some u:=λj u hu=>by
  cases j with
  |zero=>simp at hu;subst hu;rw[add_zero'];exact V
  |succ j=>simp at hu
 have h1:∀u∈[Ps x],u.oneCell'=true:=λu hu=>by rw[Oj] at hu;subst hu;rfl
 by_cases d:a+1<=q
 ·have M:=pS (P:=NX) w dS ty dH inf Y hi g o a q cur X p 1 1 [Ps x] (by rw[hs];rfl) c h1 d (by rw[hs];simp;omega);rw[hs,OY] at M;refine⟨_,_,M,⟨⟨some ⟨g,o,none⟩,a+1,q⟩,rfl,N _ _ ⟨by rw[Oy];show a+1=_;rw[y];rfl,.inr ⟨g,o,_,rfl,setRow_heap w g cur _ dH _ X,d,h4,?_,?_⟩⟩ ⟨by simp[World.setRow],λb _ I=>setRow_other w g b _ (λC=>I ⟨_,rfl,C.symm⟩)⟩ (λb I=>.inl ?_)⟩,(.of_le rfl (N3 _))⟩
  ·simp only[Qe,Oy,OO,Ph,Qc,PW];omega
  ·simp only;have af:(cur.toList.take (o+a)).length=o+a:=by rw[OO,Qc];omega
   rw[OU,List.drop_append_of_le_length (by omega),Vf,show o+a - o=a by omega,h6,OG,<-OU,V6 (by rw[Oy,hlen];rfl)];rfl
  ·obtain⟨D,C,S⟩:=I;exact⟨D,C,S⟩
 ·have holds:∀j u,(l.map Ps)[j]?=some u->w.cell? ((⟨g,o,none⟩:Addr).add j)=some u:=λj u hu=>by
   obtain⟨D,C,hc⟩:=h.rd j u (by rw[j5];exact hu);cases C;exact hc
  have T:a+1<=maxLen:=by unfold maxLen;omega
  have M:=run_append_grow (P:=NX) w dS ty dH inf z Y hi hz ⟨g,o,none⟩ a q (l.map Ps) (by rw[hs,OY];exact hlen) holds p 1 1 [Ps x] (by rw[hs];rfl) c (by omega) (by omega) (growslice_fits (by omega) (by rw[R];omega));have U:=grownCap_ge w (a+1) q dH;have J:grownCap w (a+1) q dH<=maxLen:=grownCap_le_maxLen w (a+1) q dH T;refine⟨_,_,M,⟨⟨some ⟨w.heap.size,0,none⟩,a+1,grownCap w (a+1) q dH⟩,rfl,N _ _ (.of ?_) (Mod.push _ _ _) (λb I=>.inr ?_)⟩,(.of_le rfl (OR _))⟩
  ·have L:(kQ.all (l++[x])).length=(a+1)*1:=by rw[j5,OL,Oy,OY,y];rfl
   refine aM.fresh (size:=1) (On _) U J ?_ L ?_
   ·simp only[Array.size_append,Qe,size_zeroCells,O,hs,hlen,PW];omega
   ·rw[<-L,j5,OG];simp only[Array.toList_append];exact List.take_left
  ·obtain⟨D,C,S⟩:=I;cases C;have:w.heap.size=b:=S;omega
theorem nK.push {x:ByteArray}{ty:TypeId}{K:Sl->aa->Prop}(h:nK H s l)(hl:l.length+1<=1000000)(c:∀s' B,nK B s' (l++[x])->Mod (ag s) H B->(∀b,ag s' b->ag s b\/H.size<=b)->K s' B):
  aI H #[.string x] dH λp H1=>ba ak NX (N2 #[dS,dS] ty #[s.v,.slice (some p) 1 1]) H1 K:=by
 refine ax λA g d a=>?_;refine Ch (h.mod a λ_ _=>id) (by
  have:=d.cell (i:=0) (v:=.string x) rfl;exact this) hl λs' B o m w=>c s' B o ((Ext.mod a).trans' m λb _ q=>q) λb e=>(w b e).imp id λq=>by omega
end
theorem eQ.get {X:Nat->Prop}{A:aa}{s:Sl}{ls:List (List Int)}{l:List Int}(h:eQ X A s ls){i:Nat}(hi:ls[i]?=some l){K:Sl->Prop}(d:∀r,Ints .u64 A r l->(∀ad,r.a=some ad->ad.block<A.size/\¬X ad.block)->K r):
  ae s.a λa=>(0<=(i:Int)/\(i:Int)<(s.n:Int))/\Go.Proofs.YtmkbhnholcaghaaGreatDoor.ld ak A (a.add ((i:Int).toNat*1)) K:=by
 have y:=h.n;obtain⟨rs,o,hlen,e⟩:=h.ex;have g:=(NZ.1 hi).1;have b:i<rs.length:=by omega
 obtain⟨ad,j,q⟩:=o.reads.at (i:=i) (by rw[OL];exact b);obtain⟨x,c⟩:=e i rs[i] l (N0 b) hi;refine aX ad j ⟨⟨by omega,by omega⟩,rs[i],?_,d _ x λad h1=>⟨(c ad h1).1,(c ad h1).2.1⟩⟩;rw[N5,OY];simpa using q
theorem ao.frames {F:Nat->Prop}{H:aa}{p dp:Nat}{s:Pl}(h:ao F H p dp s):s.fs.length<=4096:=Oo h.wf.len h.wf.most.2
section
variable {A0:aa}{F:Nat->Prop}{p dp:Nat}{s:Pl}{name:ByteArray}{W:Int}{rows:Sl}{ls:List (List Int)}
set_option maxHeartbeats 1000000 in
theorem C0 {K:Int->aa->Prop}{x y:Nat}(hp:ao F A0 p dp s)(hr:eQ F A0 rows ls)(hl:ls.length<=1000000)(X:∀l∈ls,l.length<=16)(Y:name.size<=9223372036854775807)(b:Bd s x y)(hx:x<800000000000)(hy:y<50000000000)
  (c:∀F' B,ao F' B p dp (hY s name W ls).1->Step F F' A0 B->K (hY s name W ls).2 B):Jc.sp (aE p) name W rows A0 K:=by
 refine Jc.of ?_;unfold Jc.vc;have q1:=b.lo;have q2:=b.hi;have q3:=b.aB;have bM:=b.make (n:=name) (W:=W) (by omega);unfold hY at c;refine xh hp Y (by omega) (by omega) q1 b.fit (λZ B p2 U I=>?_) (λZ B kw w p2 U I w2 k1 k2=>?_)
 ·have V:=gN.1 I;rw[I] at c;refine ar 0 (λ_ z C=>z.1=(bh s name W).2.2/\C=B) ⟨rfl,rfl⟩ ?_;rintro i ⟨e,j⟩ C next hi ⟨he,rfl⟩ a
  simp only at he;subst he;refine aC (by rw[Ts];right;simpa using V) (aC (by simpa using V) ?_);exact c Z C p2 U
 obtain⟨V,hw,W0,af⟩:=gN.2 w I;subst hw;rw[I] at c;simp only at c;generalize (bh s name W).1=s1 at*;rw[V];have a7:=hr.n;have J:∀b,dr kw bk bk b->b=kw:=by
  rintro b (q|q|q)
  ·exact q
  ·exact absurd q (aS b)
  ·exact absurd q (aS b)
 refine ar ls.length (λi z B=>(z.1≠0/\K z.1 B)\/(z.1=0/\z.2=(i:Int)/\∃F' s' w sw sl,ao F' B p dp s'/\qW B kw p w sw sl/\(∀b,F' b->¬dr kw sw sl b)/\(∀b,F' b\/dr kw sw sl b->F b\/A0.size<=b)/\Mod F A0 B/\Bd s' (x+1+i) (y+2+2*i)/\lT w name i/\
   kL ls s1 (vP name W)=kL (ls.drop i) s' w)) (.inr ⟨rfl,rfl,Z,s1,vP name W,bk,bk,p2,w2,λb L q=>k2 ((J b q)▸L),λb L=>?_,U.mod,bM,wJ name W0 af,rfl⟩) ?_
 ·rcases L with q|q
  ·exact U.own b q
  ·have:=J b q;exact .inr (by omega)
 rintro i ⟨e,j⟩ B next hi hI a
 rcases hI with ⟨g,hk⟩|⟨g,hj,F',s',w,sw,sl,pB,wB,dB,M,N,E,G,D⟩
 ·exact aC (by rw[Ts];right;simpa using g) (aC (by simpa using g) hk)
 simp only at g hj;subst g;subst hj;have u1:=E.lo;have u2:=E.hi;have u3:=E.aB;have c1:=G.wait;have c2:=G.n;have c3:=G.rows;refine ah (λO=>?_) (λO=>?_)
 ·have h:i<ls.length:=by
   rw[Ob] at O;have:(i:Int)<(rows.n:Int):=of_decide_eq_true O.1;omega
  have rX:=hr.step (X':=λb=>F' b\/dr kw sw sl b) ⟨N,M⟩;refine rX.get (N0 h) λr ri ro=>?_;rw[OQ h] at D;simp only[kL] at D;have a8:=X _ (OH h);have an:=E.add (w:=w) (by omega) ls[i];have a1:=(G.add s' ls[i]).1;refine BE wB pB dB ri (λad ha _ q=>(ro ad ha).2 (.inr q)) (λ_=>by omega) (by omega) (by omega) (by omega) (by rw[G.name];exact Y) (by omega) (by omega) u1 E.fit λP R S C p3 w3 d3 T=>?_;have o3:∀b,P b\/dr kw R S b->F b\/A0.size<=b:=λb r=>by
   rcases T.own b r with u|u
   ·exact M b u
   ·have:=N.size;exact .inr (by omega)
  have m3:Mod F A0 C:=N.trans' T.mod λb L r=>(M b r).resolve_right (by omega);by_cases g:(w.add s' ls[i]).2.2=0
  ·rw[if_neg (by rw[g];simp)] at D;rw[g];exact a h _ C (.inr ⟨rfl,aD i (by omega),P,_,_,R,S,p3,w3,d3,o3,m3,an.mono (by omega) (by omega),a1,D⟩)
  ·rw[if_pos g] at D;rw[D] at c;unfold uM at c;rw[if_pos g] at c;exact a h _ C (.inl ⟨g,c P C p3 ⟨m3,λb r=>o3 b (.inl r)⟩⟩)
 ·have a6:i=ls.length:=by
   rw[Ts] at O;have:¬(i:Int)<(rows.n:Int):=O.elim of_decide_eq_false λq=>by simp at q
   omega
  subst a6;rw[Rp] at D;simp only[kL] at D;rw[D] at c;unfold uM at c;rw[if_neg (by simp)] at c;have o:=E.out (w:=w) (by omega);have o1:=o.hi;have I:=o.aB;refine aP rfl ?_;refine u6 wB pB dB (by omega) G.width.1 (by rw[G.name];exact Y) (by omega) (by omega) u1 E.fit (by omega) (by omega) (λz d=>by have:=(Bd.leave ((o.bt (n:=w.b.name) (by omega) 0).set z 2 d) z).aB;omega) o.fit (λz d=>(Bd.leave ((o.bt (n:=w.b.name) (by omega) 0).set z 2 d) z).fit) λP bb C p3 w3 d3 T=>?_;refine c P C p3 ⟨N.trans' T.mod λb L r=>(M b r).resolve_right (by omega),λb r=>?_⟩;rcases T.own b (.inl r) with u|u
  ·exact M b u
  ·have:=N.size;exact .inr (by omega)
end
theorem BI:∀n:Nat,n<10->bytesOf [48+(n:Int)]=lU n:=by decide+kernel
theorem Hi:∀n:Nat,n<100->9<n->lU (n/10)++bytesOf [48+((n%10:Nat):Int)]=lU n:=by decide+kernel
theorem FQ:∀k:Nat,k<10->OW.wrap (NY.wrap (48+(k:Int)))=48+(k:Int):=by decide+kernel
section
variable {H:aa}{k p dp:Nat}{t:So}{sw ss:Sl}{rs:List Sl}{F:Nat->Prop}{s:Pl}
theorem yF {n:Nat}{K:ByteArray->aa->Prop}(g:n<100)(b:∀B,Ext H B->K (bytesOf [48+((n%10:Nat):Int)]) B):
  aI H #[(.int .u8 (OW.wrap (NY.wrap ((48:Int)+(Pf (n:Int) (10:Int))))))] fw λp H1=>vJ H1 (some p) 1 λ(s:ByteArray)=>K s H1:=by
 have c:Pf (n:Int) 10=((n%10:Nat):Int):=by rw[Int.tmod_eq_emod_of_nonneg (by omega)];omega
 rw[c,FQ _ (SP _ (by decide))];refine uP (k:=.u8) [48+((n%10:Nat):Int)] λp B _ _ d e=>?_;exact KQ (s:=Sl.mk (some p) 1 1) (d 1) (λx a=>by rw[Oj] at a;subst a;omega) (b B e)
theorem BV {n:Nat}{K:ByteArray->aa->Prop}(b:n<100)(d:∀B,Ext H B->K (lU n) B):DP.sp (n:Int) H K:=by
 refine DP.of ?_;unfold DP.vc;refine yF b λB e=>?_;refine ah (λc=>?_) λc=>?_
 ·have a:9<n:=by have:(n:Int)>9:=of_decide_eq_true c;omega
  have g:NY.wrap (OP (n:Int) 10)=((n/10:Nat):Int):=by
   rw[Int.tdiv_eq_ediv_of_nonneg (by omega),wrap64 (by omega) (by omega)];omega
  rw[g];refine DP.of ?_;unfold DP.vc;refine yF (by omega) λC h=>?_;refine aC (decide_eq_false (by omega)) ?_;rw[Sf (by omega:n/10<10),BI (n/10) (by omega)];have e2:=Hi n b a;have:=cI b;refine⟨?_,?_⟩
  ·rw[<-e2,RP] at this;omega
  ·rw[e2];exact d C (e.trans h)
 ·have a:n<10:=by have:¬(n:Int)>9:=of_decide_eq_false c;omega
  rw[Sf a,BI n a];exact d B e
structure nk (H:aa)(k p:Nat)(t:So)(sw:Sl)(rs:List Sl)(ss:Sl):Prop where
 row:aj H k yJ (ij p t sw ss)
 wait:aO H 0 sw rs t.wait
 side:nK H ss t.side
 iB:∀l∈t.wait,l.length<=16
theorem nk.jE (h:nk H k p t sw rs ss):¬ag sw k:=λq=>by
 obtain⟨cur,a⟩:=h.wait.out.obj k q;exact absurd (aF a h.row) (by decide)
theorem nk.js (h:nk H k p t sw rs ss):∀x∈rs,¬ag x k:=λx a q=>by
 obtain⟨l,hl⟩:=h.wait.rowAt a;obtain⟨cur,b⟩:=hl.obj k q;exact absurd (aF b h.row) (by decide)
theorem nk.nM (h:nk H k p t sw rs ss):¬ag ss k:=λq=>by
 obtain⟨cur,a⟩:=h.side.obj k q;exact absurd (aF a h.row) (by decide)
theorem nk.lt (h:nk H k p t sw rs ss):∀b,cd k sw rs ss b->b<H.size:=by
 rintro b (q|q|⟨x,a,q⟩|q)
 ·subst q;exact aA h.row
 ·exact(h.wait.block.1 b q).2
 ·exact(h.wait.block.2 x a b q).2
 ·exact h.side.lt b q
theorem nk.mod {G:Nat->Prop}{H':aa}(h:nk H k p t sw rs ss)(m:Mod G H H')(c:∀b,cd k sw rs ss b->¬G b):nk H' k p t sw rs ss:=
 ⟨h.row.mod m (c k (.inl rfl)),h.wait.mod m (λb a=>c b (.inr (.inl a))) λx d b a=>c b (.inr (.inr (.inl ⟨x,d,a⟩))),h.side.mod m λb a=>c b (.inr (.inr (.inr a))),h.iB⟩
theorem nk.ext {H':aa}(h:nk H k p t sw rs ss)(e:Ext H H'):nk H' k p t sw rs ss:=h.mod e λ_ _=>id
theorem jg {K:Int->aa->Prop}(h:aj H k yJ (ij p t sw ss))(a:K t.ready H):Iu.sp (aE k) H K:=by
 refine Iu.of ?_;unfold Iu.vc;unfold So.ready at a;unfold aE;simp only[al];refine h.ld (c:=ab .i64) (i:=7) (x:=t.wrong) rfl ?_;refine ah (λd=>?_) (λd=>?_)
 ·refine h.ld (c:=ab .i64) (i:=7) (x:=t.wrong) rfl ?_;rw[if_pos (by simpa using d)] at a;exact a
 ·rw[if_neg (by simpa using d)] at a;refine h.ld (c:=ay) (i:=8) (x:=t.closed) rfl ?_;cases b:t.closed with
  |true=>rw[b,if_pos rfl] at a;exact a
  |false=>rw[b,if_neg (by simp)] at a;exact a
theorem w6 {K:ByteArray->aa->Prop}(h:aj H k yJ (ij p t sw ss))(d:t.next<100)(hs:t.name.size<=1000000)
  (o:∀H',aj H' k yJ (ij p (t.to (t.next+1)) sw ss)->Mod (λb=>b=k) H H'->K (bU t.name t.next) H'):Iy.sp (aE k) H K:=by
 refine Iy.of ?_;unfold Iy.vc;unfold aE;simp only[al];refine h.ld (c:=ab .i64) (i:=6) (x:=(t.next:Int)) rfl ?_;rw[aD t.next (by omega)];refine aj.st h (i:=6) (by simp[ij]) rfl λH1 y m1 C=>?_;have a:aj H1 k yJ (ij p (t.to (t.next+1)) sw ss):=y;have h1:KP.size=1:=rfl;refine⟨λA=>aj A k yJ (ij p (t.to (t.next+1)) sw ss),a,?_⟩;refine aj.dv (c:=aK) (i:=1) (x:=t.name) (cs:=λ_=>_) (λ_ q=>q) (λ_ _=>rfl) ?_;have z:t.name.size+(O6 #[126]).size<=1000001:=by show t.name.size+1<=_;omega
 refine⟨by omega,?_⟩;refine a.ld (c:=ab .i64) (i:=6) (x:=((t.next+1:Nat):Int)) rfl ?_;have e:NY.wrap (((t.next+1:Nat):Int) - 1)=(t.next:Int):=by rw[wrap64 (by omega) (by omega)];omega
 rw[e];refine BV d λB g=>?_;have j:=a.ext g;refine⟨j,?_,o B j (m1.trans (g.mono λ_ _ q=>q.elim))⟩;have:=cI d;rw[RP];omega
end
section
variable {H:aa}{k p dp:Nat}{t:So}{sw ss:Sl}{rs:List Sl}{F:Nat->Prop}{s:Pl}
theorem Es {K:Int->Prop}(h:ao F H p dp s)(b:K (s.most:Int)):ae (aE p) λa=>Go.Proofs.YtmkbhnholcaghaaGreatDoor.ld (ab .i64) H (a.add 1) K:=by
 obtain⟨ll,zs,D,g,d⟩:=h;refine aX ⟨p,0,none⟩ rfl ?_;exact g.pool.head.ld (c:=ab .i64) (i:=1) (x:=(s.most:Int)) rfl b
theorem ue {n:ByteArray}{W fr:Int}{K:(Option Addr×Int)->aa->Prop}(g:ao F H p dp s)
  (a:(iN s n W fr).1=none->K (none,(iN s n W fr).2) H) (c:(iN s n W fr).1=some (Jo n W fr)->(iN s n W fr).2=0->∀H',Ext H H'->H.size<H'.size->nk H' H.size p (Jo n W fr) bk [] bk->K (aE H.size,0) H'):Kf.sp (aE p) n W fr H K:=by
 refine Kf.of ?_;unfold Kf.vc;unfold iN at a c;refine aC rfl ?_;refine eX ?_;refine ah (λb=>?_) (λb=>?_)
 ·have h1:aH W=0:=by simpa using b
  rw[if_pos h1] at a;exact a rfl
 have h1:aH W≠0:=by simpa using b
 rw[if_neg h1] at a c;refine ah (λb=>?_) (λb=>?_)
 ·have d:fr<3:=by simpa using b
  rw[if_pos (.inl d)] at a;exact a rfl
 have d:¬fr<3:=by simpa using b
 refine Es g ?_;refine ah (λb=>?_) (λb=>?_)
 ·have e:fr>s.most:=by simpa using b
  rw[if_pos (.inr e)] at a;exact a rfl
 have e:¬fr>s.most:=by simpa using b
 rw[if_neg (λq=>q.elim d e)] at c;refine ax λH1 j h i=>?_;exact c rfl rfl H1 i (by omega) ⟨h,aO.nil _ _,nK.nil _,λl hl=>(by cases hl)⟩
set_option maxHeartbeats 1000000 in
theorem vi {K:Int->aa->Prop}{x y:Nat}(h:nk H k p t sw rs ss)(hp:ao F H p dp s)(dis:∀b,F b->¬cd k sw rs ss b)(M:vF t)(hw:t.wait.length<=900)(b:Bd s x y)(z:x<800000000000)(hy:y<50000000000)
  (hK:∀F' d H',ao F' H' p dp (t.aside s).1->nk H' k p {t.iI with wrong:=if (t.aside s).2.2=0 then t.wrong else (t.aside s).2.2} bk [] d->(∀b,F' b->¬cd k bk [] d b)->Step (λb=>F b\/cd k sw rs ss b) (λb=>F' b\/cd k bk [] d b) H H'->K (t.aside s).2.2 H'):Gq.sp (aE k) H K:=by
 refine Gq.of ?_;unfold Gq.vc;refine w6 h.row M.next M.name λA U R=>?_;unfold aE;simp only[al];have J:=h.jE;have e:=h.nM;have hk:=aA h.row;have zA:=R.size;refine⟨λC=>aj C k yJ (ij p (t.to (t.next+1)) sw ss),U,?_⟩;refine aj.dv (c:=av) (i:=0) (x:=aE p) (cs:=λ_=>_) (λ_ q=>q) (λ_ _=>rfl) ?_;refine aj.dv (c:=ab .i64) (i:=2) (x:=t.width) (cs:=λ_=>_) (λ_ q=>q) (λ_ _=>rfl) ?_;refine U.ld (c:=ak) (i:=4) (x:=sw) rfl ?_;have wA:aO A 0 sw rs t.wait:=h.wait.mod R (λb a q=>J (q▸a)) λx z b a q=>h.js x z (q▸a);have pA:ao F A p dp s:=hp.keep λb a hl=>R.same b hl λq=>dis b a (.inl q);refine Af (X:=F) wA.rows hw (λl hl=>by have:=h.iB l hl;omega) (λb a=>pA.lt b a) λout B rp S ob=>?_;have rB:=U.ext S;have zB:=S.size;refine⟨rB,?_⟩;have a1:=jH t.wait;refine C0 (pA.ext S) rp (by omega) (λl hl=>h.iB l (mL.1 hl)) (by have:=cI M.next;have:=M.name;rw[dQ];omega) b z hy λF' C pC L=>?_;have zC:=L.mod.size;have o:¬F k:=λq=>dis k q (.inl rfl);refine aj.st (rB.mod L.mod o) (i:=4) (by simp[ij]) rfl λD rD mD zD=>?_;refine rD.ld (c:=ak) (i:=5) (x:=ss) rfl ?_;have j:Mod (λb=>F b\/b=k) H D:=(((R.mono λb _ q=>.inr q).trans' S λb _ q=>q.elim).trans' L.mod λb _ q=>.inl q).trans' mD λb _ q=>.inr q;have sD:nK D ss t.side:=h.side.mod j λb a q=>q.elim (λu=>dis b u (.inr (.inr (.inr a)))) λu=>e (u▸a);refine nK.push (x:=bU t.name t.next) sD (by have:=M.side;omega) λd E oE T V=>?_;have g:¬ag d k:=λq=>by
  rcases V k q with r|r
  ·exact e r
  ·have:=j.size;omega
 refine aj.st (rD.mod T e) (i:=5) (by simp[ij]) rfl λG rG Y zG=>?_;have N:aj G k yJ (ij p t.iI bk d):=rG;have a6:=j.size;have zE:=T.size;have O:∀b,F' b->¬cd k bk [] d b:=by
  rintro b a (q|q|⟨x,z,_⟩|q)
  ·subst q;rcases L.own _ a with r|r
   ·exact o r
   ·omega
  ·exact aS b q
  ·cases z
  ·have bl:=pC.lt b a;rcases V b q with r|r
   ·have:=h.side.lt b r;rcases L.own b a with u|u
    ·exact dis b u (.inr (.inr (.inr r)))
    ·omega
   ·omega
 have Z:Mod (λb=>F b\/cd k sw rs ss b) H G:=((j.mono λb _ q=>q.imp id .inl).trans' T λb _ q=>.inr (.inr (.inr (.inr q)))).trans' Y λb _ q=>.inr (.inl q);have fin:∀(wr:Int) (I:aa),wr=(if (t.aside s).2.2=0 then t.wrong else (t.aside s).2.2)->Mod (λb=>b=k) G I->aj I k yJ (ij p {t.iI with wrong:=wr} bk d)->K (t.aside s).2.2 I:=λwr I af P rI=>by
  have an:Mod (λb=>cd k sw rs ss b) C I:=(((mD.mono λb _ q=>.inl q).trans' T λb _ q=>.inr (.inr (.inr q))).trans' Y λb _ q=>.inl q).trans' P λb _ q=>.inl q;subst af;refine hK F' d I (pC.keep λb a hl=>an.same b hl λq=>?_) ⟨rI,aO.nil _ _,(oE.mod Y λb a q=>g (q▸a)).mod P λb a q=>g (q▸a),λl hl=>(by cases hl)⟩ O ⟨Z.trans' P λb _ q=>.inr (.inl q),λb a=>?_⟩
  ·have:=h.lt b q;rcases L.own b a with u|u
   ·exact dis b u q
   ·omega
  ·rcases a with u|u|u|⟨x,z,_⟩|u
   ·exact(L.own b u).imp .inl λv=>by omega
   ·exact .inl (.inr (.inl u))
   ·exact absurd u (aS b)
   ·cases z
   ·exact(V b u).imp (λv=>.inr (.inr (.inr (.inr v)))) λv=>by omega
 have e2:(hY s (bU t.name t.next) t.width (eO (jL t.wait))).2=(t.aside s).2.2:=rfl;rw[e2];refine ah (λhc=>?_) λhc=>?_
 ·have e0:(t.aside s).2.2≠0:=by simpa using hc
  refine aj.st N (i:=7) (by simp[ij]) rfl λI rI P zI=>?_;exact fin (t.aside s).2.2 I (by rw[if_neg e0]) P rI
 ·have e0:(t.aside s).2.2=0:=by simpa using hc
  exact fin t.wrong G (by rw[if_pos e0]) (.refl _ _) N
set_option maxHeartbeats 1000000 in
theorem Hl {K:Int->aa->Prop}{l:Sl}{ll:List Int}{x y:Nat}(h:nk H k p t sw rs ss)(U:ao F H p dp s)(dis:∀b,F b->¬cd k sw rs ss b)(R:vF t)(a8:t.wait.length<800)(hW:t.width<=16)(hl:Ints .u64 H l ll)(b:Bd s x y)(o:x<800000000000)(hy:y<50000000000)
  (j:∀F' N O P H',ao F' H' p dp (t.add s ll).1->nk H' k p (t.add s ll).2.1 N O P->(∀b,F' b->¬cd k N O P b)->Step (λb=>F b\/cd k sw rs ss b) (λb=>F' b\/cd k N O P b) H H'->K (t.add s ll).2.2 H'):C7.sp (aE k) l H K:=by
 refine C7.of ?_;unfold C7.vc;unfold So.add at j;refine jg h.row ?_;unfold aE;simp only[al];refine ah (λz=>?_) (λz=>?_)
 ·rw[if_pos (by simpa using z)] at j;exact j F sw rs ss H U h dis (.refl _ _)
 have e:¬t.ready≠0:=by simpa using z
 rw[if_neg e] at j;have V:t.wrong=0:=by
  unfold So.ready at e;by_cases q:t.wrong=0
  ·exact q
  ·rw[if_pos q] at e;exact absurd q e
 refine h.row.ld (c:=ab .i64) (i:=2) (x:=t.width) rfl ?_;have S:=hl.len;refine ah (λz=>?_) (λz=>?_)
 ·have X:(ll.length:Int)≠t.width:=by rw[<-S];simpa using z
  rw[if_pos X] at j;exact j F sw rs ss H U h dis (.refl _ _)
 have X:¬(ll.length:Int)≠t.width:=by rw[<-S];simpa using z
 rw[if_neg X] at j;have Y:ll.length<=16:=by omega
 refine nZ.append (base:=0) (s:=Sl.mk none 0 0) (x:=l) (xs:=[]) (ws:=ll.map (Oe .u64)) (aM.nil _ _ _ _) (by simp;omega) hl.reads (mY _ _) (by simp only;omega) (by simp only;omega) (On _) λr A n3 Z mA T _=>?_;have eA:Ext H A:=mA.ext (by rintro b ⟨ad,h,_⟩;cases h);have Z:aM A 0 gR 1 r (ll.map (Oe .u64)):=Z;have T:∀b,ag r b->H.size<=b:=λb a=>(T b a).resolve_left (aS b);have G:=h.ext eA;have hk:=aA h.row;have bb:=h.wait.n;refine G.row.ld (c:=ak) (i:=4) (x:=sw) rfl ?_;refine aO.FY (base:=0) G.wait Z (λx o b a af=>?_) (by omega) (On _) λs' B n1 o1 m1 g1=>?_
 ·have:=T b a;have:=(h.wait.block.2 x o b af).2;omega
 have E:=G.jE;have zA:=eA.size;have I:¬ag s' k:=λq=>by
  rcases g1 k q with r|r
  ·exact E r
  ·omega
 refine aj.st (G.row.mod m1 E) (i:=4) (by simp[ij]) rfl λC rC mC zC=>?_;obtain⟨t1,d⟩:∃t1:So,t1={t with wait:=t.wait++[ll]}:=⟨_,rfl⟩;rw[<-d] at j;have J:aj C k yJ (ij p t1 s' ss):=by rw[d];exact rC
 have iG:∀x∈rs++[r],¬ag x k:=λx o q=>by
  rcases N6.1 o with u|u
  ·exact G.js x u q
  ·rw[Oj] at u;subst u;have:=T k q;omega
 have hC:nk C k p t1 s' (rs++[r]) ss:=by
  refine⟨J,?_,?_,?_⟩
  ·rw[d];exact o1.mod mC (λb a q=>I (q▸a)) λx o b a q=>iG x o (q▸a)
  ·rw[d];exact(G.side.mod m1 λb a q=>G.side.apart G.wait.out (by decide) b a q).mod mC λb a q=>G.nM (q▸a)
  ·rw[d];intro x o;rcases N6.1 o with u|u
   ·exact h.iB x u
   ·rw[Oj] at u;subst u;exact Y
 have z1:=m1.size;have L:Mod (λb=>b=k\/ag sw b) H C:=((Ext.mod eA).trans' m1 λb _ q=>.inr q).trans' mC λb _ q=>.inl q;have g:∀b,cd k s' (rs++[r]) ss b->cd k sw rs ss b\/H.size<=b:=by
  rintro b (q|q|⟨x,o,q⟩|q)
  ·exact .inl (.inl q)
  ·rcases g1 b q with u|u
   ·exact .inl (.inr (.inl u))
   ·exact .inr (by omega)
  ·rcases N6.1 o with u|u
   ·exact .inl (.inr (.inr (.inl ⟨x,u,q⟩)))
   ·rw[Oj] at u;subst u;exact .inr (T b q)
  ·exact .inl (.inr (.inr (.inr q)))
 have M:∀b,F b->¬cd k s' (rs++[r]) ss b:=λb a q=>by
  rcases g b q with u|u
  ·exact dis b a u
  ·have:=U.lt b a;omega
 have pC:ao F C p dp s:=U.keep λb a an=>L.same b an λq=>dis b a (q.imp_right .inl);refine⟨λA=>aj A k yJ (ij p t1 s' ss),J,?_⟩;refine aj.dv (c:=ak) (i:=4) (x:=s') (cs:=λ_=>_) (λ_ q=>q) (λ_ _=>rfl) ?_;refine aj.dv (c:=ab .i64) (i:=3) (x:=t.frames) (cs:=λ_=>_) (λ_ q=>q) (λ_ _=>by rw[d];rfl) ?_;refine J.ld (c:=ab .i64) (i:=2) (x:=t.width) (by rw[d];rfl) ?_;refine eX ⟨J,?_⟩;obtain⟨a1,bd⟩:=cV ⟨t.name,t.width,0,false⟩;simp only at a1;have hf:=R.frames;have p1:t.frames*aH t.width<=1000000*504:=Int.mul_le_mul hf.2 (by omega) (by omega) (by decide);have p0:0<=t.frames*aH t.width:=Int.mul_nonneg hf.1 (by omega);rw[wrap64 (by omega) (by omega)];have zH:=L.size;refine ah (λz=>?_) (λz=>?_)
 ·have e2:((t.wait.length+1:Nat):Int)<t.frames*aH t.width:=by
   have:(s'.n:Int)<t.frames*aH t.width:=by simpa using z
   omega
  rw[if_pos e2] at j;refine j F s' (rs++[r]) ss C pC hC M ⟨L.mono λb _ q=>.inr (q.imp_right .inl),λb a=>?_⟩;rcases a with u|u
  ·exact .inl (.inl u)
  ·exact(g b u).imp .inr id
 ·have e2:¬((t.wait.length+1:Nat):Int)<t.frames*aH t.width:=by
   have:¬(s'.n:Int)<t.frames*aH t.width:=by simpa using z
   omega
  rw[if_neg e2] at j;have a6:vF t1:=by rw[d];exact⟨R.name,by simp;omega,R.side,R.sizes,R.next,R.frames⟩
  refine vi hC pC M a6 (by rw[d];simp;omega) b o hy λF2 a7 D pD hD dD SD=>?_;have ew:(if (t1.aside s).2.2=0 then t1.wrong else (t1.aside s).2.2)=(t1.aside s).2.2:=by
   split
   ·rename_i q;rw[q,d];exact V
   ·rfl
  rw[ew] at hD;refine j F2 bk [] a7 D pD hD dD ⟨(L.mono λb _ q=>.inr (q.imp_right .inl)).trans' SD.mod λb a q=>q.imp_right λu=>(g b u).resolve_right (by omega),λb a=>?_⟩;rcases SD.own b a with (u|u)|u
  ·exact .inl (.inl u)
  ·exact(g b u).imp .inr id
  ·exact .inr (by omega)
theorem xP {names:Sl}{ns:List ByteArray}{x y:Nat}{K:Int->aa->Prop}(P:aj H k yJ (ij p t sw ss))(hk:¬F k)(R:ao F H p dp s)(S:names.n=ns.length)(D:∀A,Mod F H A->bP kQ A names.a ns)(hl:ns.length<=1000000)(b:Bd s x y)(U:y<60000000000)
  (o:∀F' H',ao F' H' p dp (je ns s).1->Step F F' H H'->K (je ns s).2 H'):Hg.sp (aE k) names H K:=by
 refine Hg.of ?_;unfold Hg.vc;refine ar ns.length (λi z B=>z=(i:Int)/\∃F' s',ao F' B p dp s'/\Step F F' H B/\Bd s' x y/\je ns s=je (ns.drop i) s') ⟨rfl,F,s,R,.refl _ _,b,rfl⟩ ?_;rintro i z B next hi ⟨rfl,T,s2,p2,j,L,a⟩ d
 have vO:=P.mod j.mod hk;refine ah (λg=>?_) (λg=>?_)
 ·have h:i<ns.length:=by
   have:(i:Int)<(names.n:Int):=by simpa using g
   omega
  rw[OQ h] at a;simp only[je] at a;unfold aE;simp only[al];refine vO.ld (c:=av) (i:=0) (x:=aE p) rfl ?_;have q:=bP.one (E:=kQ) (c:=aK) (s:=names) (D B j.mod) S rfl (N0 h) rfl (K:=λG=>Hn.sp (aE p) G B λ(e:Int) M=>br (e !=(0:Int)) (K e M) (next (NY.wrap ((i:Int)+(1:Int))) M)) (by
   refine C9 p2 (by have:=L.aB;omega) λN C p3 O=>?_;refine ah (λg=>?_) λg=>?_
   ·have I:(s2.cS ns[i]).2≠0:=by simpa using g
    rw[if_pos I] at a;rw[a] at o;exact o N C p3 (j.trans O)
   ·have I:¬(s2.cS ns[i]).2≠0:=by simpa using g
    rw[if_neg I] at a;rw[aD i (by omega)];exact d h _ C ⟨rfl,N,_,p3,j.trans O,L.cS,a⟩)
  simpa only[al] using q
 ·have J:i=ns.length:=by
   have:¬(i:Int)<(names.n:Int):=by simpa using g
   omega
  subst J;rw[Rp] at a;simp only[je] at a;rw[a] at o;exact o T B p2 j
end
theorem ao.Mi {F:Nat->Prop}{H:aa}{p dp:Nat}{s:Pl}(h:ao F H p dp s):s.d.WF:=by
 obtain⟨ll,zs,D,g,a⟩:=h;exact g.cu.wf
section
variable {p dp:Nat}{W:Int}
theorem qy:∀{ns:List ByteArray} {s:Pl} {x y:Nat} {F:Nat->Prop} {A:aa},ao F A p dp s->Bd s x y->x+ns.length<900000000000->y+ns.length<60000000000->(∀n∈ns,n.size<=9223372036854775807)->bN (aV W ns s).2.1<=ns.length*((aH W).toNat*1048576)
 |[],s,x,y,F,A,_,_,_,_,_=>by simp[aV,bN]
 |n::ns,s,x,y,F,A,c,b,d,g,hs=>by
   rw[OF] at d g ⊢;have h:=b.lo;have o:=b.hi;have q:=b.aB;have z:=(b.look (n:=n) (by omega) 0).aB;have ⟨F',B,a⟩:∃F' B,ao F' B p dp (rnOpen s n W).1:=ai.pure (H:=A) (xF (W:=W) c (hs n Oq) (by omega) (by omega) h (by omega) (λF' B p1 i _=>⟨F',B,p1⟩) λF' B k r p1 i _ _ _ _=>⟨F',B,p1⟩);simp only[aV];split
   ·simp[bN]
   ·rename_i r e;have h1:=qe e a.Mi;have j:=qy (x:=x+1) (y:=y+1) (ns:=ns) a (b.open (n:=n) (W:=W) (by omega)) (by omega) (by omega) λm hm=>hs m (Oh _ hm);simp only[bN,Ol,O8] at j ⊢;rw[O7];omega
end
def Au (p dp:Nat)(W:Int)(S N:Nat):Prop:=∀(F:Nat->Prop) (A:aa) (s:Pl) (x y:Nat) (l:List ByteArray),ao F A p dp s->Bd s x y->x<800000000000->y<50000000000->l.length<=S->(∀n∈l,n.size<=9223372036854775807)->bN (aV W l s).2.1<=N
theorem KD {p dp S N:Nat}{W:Int}(c:S<=100000)(h:S*((aH W).toNat*1048576)<=N):Au p dp W S N:=λF A s x y l a b d e hl hs=>
 Oo (Oo (qy (x:=x) (y:=y) a b (by omega) (by omega) hs) (OE _ hl)) h
theorem So.oe:∀(f:Nat) (t:So) (s:Pl),(t.rounds f s).2.1.wrong=t.wrong/\(t.rounds f s).2.1.closed=t.closed
 |0,t,s=>⟨rfl,rfl⟩
 |f+1,t,s=>by
   simp only[So.rounds];split
   ·split
    ·exact⟨rfl,rfl⟩
    ·exact So.oe f _ _
   ·exact⟨rfl,rfl⟩
theorem So.As (t:So)(s:Pl):(So.goes (t.first s)).2.1.wrong=t.wrong:=by
 have h1:(t.first s).2.1.wrong=t.wrong:=by
  unfold So.first;split<;>rfl
 unfold So.goes;split
 ·exact h1
 ·have a:=(So.oe (t.first s).2.1.side.length (t.first s).2.1 (t.first s).1).1;unfold So.last;split
  ·exact a.trans h1
  ·exact a.trans h1
section
variable {H:aa}{k p dp:Nat}{t:So}{sw ss:Sl}{rs:List Sl}{F:Nat->Prop}{s:Pl}
theorem xL {a:Sl}{n b:Nat}(h:cd k sw rs a b)(hs:∀b,ag a b->ag ss b\/n<=b):cd k sw rs ss b\/n<=b:=by
 rcases h with q|q|q|q
 ·exact .inl (.inl q)
 ·exact .inl (.inr (.inl q))
 ·exact .inl (.inr (.inr (.inl q)))
 ·exact(hs b q).imp (λu=>.inr (.inr (.inr u))) id
set_option maxRecDepth 100000 in
set_option maxHeartbeats 4000000 in
theorem Ia {K:(Int×Int)->aa->Prop}{x y N R:Nat}(h:nk H k p t sw rs ss)(hp:ao F H p dp s)(dis:∀b,F b->¬cd k sw rs ss b)(hz:vF t)(hw:t.wait.length<=900)(b9:t.wrong=0)(dD:t.next+t.side.length+2<=100)(dT:3<=t.frames)(b:Bd s x y)(hR:t.side.length+2<=R)(cb:N<=1000000000)(hx:x+400010+R*(2*N+3000)<=600000000000)(hy:y+805000+R*(3*N+9000)<=39000000000)
  (hle:Au p dp t.width (t.side.length+1) N)
  (V:∀F' t' o z j H',ao F' H' p dp (So.goes (t.first s)).1->nk H' k p t' o z j->((So.goes (t.first s)).2.2.2=0->t'.wrong=0)->(∀b,F' b->¬cd k o z j b)->Step (λb=>F b\/cd k sw rs ss b) (λb=>F' b\/cd k o z j b) H H'->K ((if (So.goes (t.first s)).2.2.2=0 then ((So.goes (t.first s)).2.2.1:Int) else 0),(So.goes (t.first s)).2.2.2) H'):JF.sp (aE k) H K:=by
 refine JF.of ?_;unfold JF.vc;unfold aE;simp only[al];have ck:=h.wait.n;refine⟨λ_ B=>(t.first s).2.2=0/\∃F' o z j,ao F' B p dp (t.first s).1/\nk B k p (t.first s).2.1 o z j/\(∀b,F' b->¬cd k o z j b)/\Step (λb=>F b\/cd k sw rs ss b) (λb=>F' b\/cd k o z j b) H B/\Bd (t.first s).1 (x+400010) (y+805000)/\vF (t.first s).2.1/\(t.first s).2.1.next+(t.first s).2.1.side.length<=100/\(t.first s).2.1.frames=t.frames/\(t.first s).2.1.side.length<=t.side.length+1/\(t.first s).2.1.width=t.width/\(t.first s).2.1.wrong=0,?_,?_⟩
 ·have aside:∀(Kb:Int->aa->Prop),(t.wait≠[]\/t.side=[])->(∀e B,e≠0->K (0,e) B->Kb e B)->(∀B,((t.first s).2.2=0/\∃F' o z j,ao F' B p dp (t.first s).1/\nk B k p (t.first s).2.1 o z j/\(∀b,F' b->¬cd k o z j b)/\Step (λb=>F b\/cd k sw rs ss b) (λb=>F' b\/cd k o z j b) H B/\Bd (t.first s).1 (x+400010) (y+805000)/\vF (t.first s).2.1/\(t.first s).2.1.next+(t.first s).2.1.side.length<=100/\(t.first s).2.1.frames=t.frames/\(t.first s).2.1.side.length<=t.side.length+1/\(t.first s).2.1.width=t.width/\(t.first s).2.1.wrong=0)->Kb 0 B)->
    Gq.sp (some ⟨k,0,none⟩) H Kb:=λKb L k1 k2=>by
   have ef:t.first s=t.aside s:=if_pos L;rw[ef] at V k2;refine vi h hp dis hz hw b (by omega) (by omega) λF' j B pB g dB SB=>?_;have ea:=jH t.wait;have bd:Bd (t.aside s).1 (x+400010) (y+805000):=(rZ b (by omega) pB.frames).mono (by omega) (by omega);by_cases e0:(t.aside s).2.2=0
   ·rw[if_pos e0] at g;have g:nk B k p (t.aside s).2.1 bk [] j:=g;rw[e0];refine k2 B ⟨e0,F',bk,[],j,pB,g,dB,SB,bd,⟨hz.name,On _,?_,λn hn=>?_,?_,hz.frames⟩,?_,rfl,?_,rfl,b9⟩
    ·show (t.side++[_]).length<=1000;simp;omega
    ·rcases N6.1 (show n∈t.side++[bU t.name t.next] from hn) with u|u
     ·exact hz.sizes n u
     ·rw[Oj] at u;subst u;have:=cI hz.next;have:=hz.name;rw[dQ];omega
    ·show t.next+1<100;omega
    ·show t.next+1+(t.side++[_]).length<=100;simp;omega
    ·show (t.side++[_]).length<=t.side.length+1;simp
   ·have eg:So.goes (t.aside s)=((t.aside s).1,(t.aside s).2.1,0,(t.aside s).2.2):=by unfold So.goes;rw[if_pos e0]
    rw[eg] at V;have q:=V F' _ bk [] j B pB g (λu=>absurd u e0) dB SB;rw[if_neg e0] at q;exact k1 _ B e0 q
  refine h.row.ld (c:=ak) (i:=4) (x:=sw) rfl ?_;refine ah (λL=>?_) (λL=>?_)
  ·have hw:t.wait≠[]:=λq=>by rw[q] at ck;rw[ck] at L;simp at L
   exact aside _ (.inl hw) (λe B e0 q=>aP (by simpa using e0) q) λB q=>aC rfl q
  ·have hw:t.wait=[]:=by
    have:¬(sw.n:Int)>0:=by simpa using L
    exact Om (by omega)
   refine h.row.ld (c:=ak) (i:=5) (x:=ss) rfl ?_;have hn:=h.side.n;refine ah (λL=>?_) (λL=>?_)
   ·have hs:t.side=[]:=by
     have:(ss.n:Int)=0:=by simpa using L
     exact Om (by omega)
    exact aside _ (.inr hs) (λe B e0 q=>aP (by simpa using e0) q) λB q=>aC rfl q
   ·have hs:t.side≠[]:=λq=>by rw[q] at hn;rw[hn] at L;simp at L
    have ef:t.first s=(s,t,0):=if_neg (by rintro(q|q);exact q hw;exact hs q);rw[ef];exact⟨rfl,F,sw,rs,ss,hp,h,dis,.refl _ _,b.mono (by omega) (by omega),hz,by show t.next+t.side.length<=100;omega,rfl,OR _,rfl,b9⟩
 ·rintro _ A ⟨e0,F1,cz,cB,c0,pA,sA,dA,SA,bA,zA,nA,fA,lA,wA,vA⟩;have eg:So.goes (t.first s)=So.last ((t.first s).2.1.rounds (t.first s).2.1.side.length (t.first s).1):=if_neg (by rw[e0];simp);rw[eg] at V;generalize hl:(t.first s).2.1.side.length=f0 at*;have c3:(t.first s).2.1.side.length<=f0:=Ue hl;have cm:f0+1<=R:=by omega
  generalize (t.first s).2.1=t1 at*;generalize (t.first s).1=s1 at*;have hmul:(f0+1)*(2*N+3000)<=R*(2*N+3000):=OE _ cm;have b1:(f0+1)*(3*N+9000)<=R*(3*N+9000):=OE _ cm;rw[O7] at hmul b1;refine⟨Nat,λf _ B=>∃F' o z j t' s' xx yy,ao F' B p dp s'/\nk B k p t' o z j/\(∀b,F' b->¬cd k o z j b)/\Step (λb=>F b\/cd k sw rs ss b) (λb=>F' b\/cd k o z j b) H B/\Bd s' xx yy/\xx+f*(2*N+3000)<=x+400010+f0*(2*N+3000)/\yy+f*(3*N+9000)<=y+805000+f0*(3*N+9000)/\vF t'/\t'.next+t'.side.length<=100/\t'.frames=t.frames/\t'.side.length<=f/\f<=f0/\t'.width=t.width/\t'.wrong=0/\t1.rounds f0 s1=t'.rounds f s',λf=>f,
   ⟨f0,F1,cz,cB,c0,t1,s1,x+400010,y+805000,pA,sA,dA,SA,bA,N3 _,N3 _,zA,by rw[hl];exact nA,fA,c3,N3 _,wA,vA,rfl⟩,?_⟩
  rintro f _ B ⟨X,M,O,a,t2,s2,xx,yy,pB,g,dB,SB,bB,bx,c4,Y,nB,fB,lB,ff,wB,vB,eB⟩;have cx:=g.side.n;have eb:=g.side.cap;have hf:=Y.frames;have ee:=aA g.row;have a1:=g.jE;have S:=g.nM;have ei:=SB.mod.size;have P:¬X k:=λq=>dB k q (.inl rfl);refine g.row.ld (c:=ak) (i:=5) (x:=a) rfl ?_;refine g.row.ld (c:=ab .i64) (i:=3) (x:=t2.frames) rfl ?_;refine ah (λL=>?_) (λL=>?_)
  ·have c5:t2.frames<=(t2.side.length:Int):=by
    have:(a.n:Int)>=t2.frames:=by simpa using L
    omega
   cases f with
   |zero=>exact absurd lB (by omega)
   |succ f=>
   rw[O7] at bx c4;have er:t2.rounds (f+1) s2=if (t2.round s2).2.2.2≠0 then ((t2.round s2).1,(t2.round s2).2.1,(t2.round s2).2.2.2) else So.rounds f {(t2.round s2).2.1 with side:=t2.side.drop (t2.frames - 1).toNat++[bU t2.name t2.next]} (t2.round s2).1:=if_pos c5
   have ej:t2.next<98:=by omega
   have ec:NY.wrap (t2.frames - 1)=(((t2.frames - 1).toNat:Nat):Int):=by rw[wrap64 (by omega) (by omega)];omega
   obtain⟨c,bn⟩:∃c,c=(t2.frames - 1).toNat:=⟨_,rfl⟩;rw[<-bn] at er;have ek:c<t2.side.length:=by omega
   have dc:(t2.side.take c).length=c:=by rw[OO];omega
   have bD:∀n∈t2.side.take c,n.size<=9223372036854775807:=λn hn=>Y.sizes n (Pb hn);have a6:bN (aV t2.width (t2.side.take c) s2).2.1<=N:=by
    rw[wB];exact hle X B s2 xx yy _ pB bB (by omega) (by omega) (by omega) bD
   refine g.row.ld (c:=ak) (i:=5) (x:=a) rfl ?_;refine g.row.ld (c:=ab .i64) (i:=3) (x:=t2.frames) rfl ?_;rw[ec,<-bn];refine⟨⟨by omega,by omega⟩,?_⟩;simp only[N5,Tr,AV];refine az.append (E:=kQ) (s:=Sl.mk none 0 0) (x:=⟨a.a,c,a.c⟩) (l:=[]) (r:=t2.side.take c) CD (az.nil _ _ _) g.side.rd.take dc.symm (by simp;omega) (by simp;omega) λfirst C oC gC _=>?_
   have eC:Ext B C:=gC.1.ext (by rintro b ⟨ad,h,_⟩;cases h);have oC:az kQ dH C first (t2.side.take c):=oC
   have nC:∀b,ag first b->B.size<=b:=λb d=>(gC.2 b d).resolve_left (aS b)
   have zC:=eC.size;have fn:first.n=(t2.side.take c).length:=az.n oC (by decide);refine w6 (g.row.ext eC) (by omega) Y.name λD rD mD=>?_;have zD:=mD.size;have cy:∀b,ag first b->b≠k:=λb d q=>by have:=nC b d;omega
   have oD:az kQ dH D first (t2.side.take c):=oC.mod mD λb d=>cy b d
   have pD:ao X D p dp s2:=(pB.ext eC).keep λb d a7=>mD.same b a7 λq=>P (q▸d);refine rD.ld (c:=av) (i:=0) (x:=aE p) rfl ?_;refine rD.ld (c:=ab .i64) (i:=2) (x:=t2.width) rfl ?_;have a8:∀b,ag first b->¬X b:=λb d q=>by have:=nC b d;have:=pB.lt b q;omega
   have dk:∀A,Mod X D A->bP kQ A first.a (t2.side.take c):=λA m=>az.rd (E:=kQ) (oD.mod m a8);have bO:(bU t2.name t2.next).size<=9223372036854775807:=by have:=cI Y.next;have:=Y.name;rw[dQ];omega
   refine uO pD fn dk bD bO bB (by omega) (by omega) (by omega) a6 cb λF3 E pE SE=>?_;have bM:=pq (to:=bU t2.name t2.next) (W:=t2.width) bB (by omega) (by omega) a6 pE.frames;have ed:t2.round s2=((fS (t2.side.take c) (cK s2 (t2.side.take c) (bU t2.name t2.next) t2.width)).1,{t2.to (t2.next+1) with side:=t2.side.drop c},(cK s2 (t2.side.take c) (bU t2.name t2.next) t2.width).2.1,(fS (t2.side.take c) (cK s2 (t2.side.take c) (bU t2.name t2.next) t2.width)).2):=by
    rw[bn];rfl
   rw[ed] at er;generalize cK s2 (t2.side.take c) (bU t2.name t2.next) t2.width=m at*;refine⟨λe I=>e=(fS (t2.side.take c) m).2/\∃U,ao U I p dp (fS (t2.side.take c) m).1/\Step X U D I/\Bd (fS (t2.side.take c) m).1 (xx+2*N+3000) (yy+3*N+9000),?_,?_⟩
   ·refine ah (λL=>?_) λL=>?_
    ·have T:m.2.2=0:=by simpa using L
     have ed:fS (t2.side.take c) m=je (t2.side.take c) m.1:=if_neg (by rw[T];simp);rw[ed];have Z:¬F3 k:=λq=>(SE.own k q).elim P λu=>by omega
     refine xP (rD.mod SE.mod P) Z pE fn (λA m2=>az.rd (E:=kQ) ((oD.mod SE.mod a8).mod m2 λb d q=>(SE.own b q).elim (a8 b d) λu=>by have:=oD.lt b d;omega)) (by omega) bM (by omega) λU I p4 S4=>⟨rfl,U,p4,SE.trans S4,yn bM⟩
    ·have T:m.2.2≠0:=by simpa using L
     have ed:fS (t2.side.take c) m=(m.1,m.2.2):=if_pos T;rw[ed];exact⟨rfl,F3,pE,SE,bM⟩
   ·rintro e I ⟨he,U,p4,S4,b4⟩;have zI:=S4.mod.size;have rI:=rD.mod S4.mod P;have b2:∀b,ag a b->b≠k/\¬X b:=λb d=>⟨λq=>S (q▸d),λq=>dB b q (.inr (.inr (.inr d)))⟩;have b3:Mod (λb=>X b\/b=k) B I:=((Ext.mod eC).trans' mD λb _ q=>.inr q).trans' S4.mod λb _ q=>.inl q;have b0:∀b,U b->X b\/B.size<=b:=λb d=>(S4.own b d).imp id λu=>by omega
    have d4:∀b,U b->¬cd k M O a b:=λb d q=>(b0 b d).elim (λu=>dB b u q) λu=>by have:=g.lt b q;omega
    have af:∀b,cd k M O a b->b≠k->¬(X b\/b=k):=λb d hn q=>q.elim (λu=>dB b u d) hn;have qI:nk I k p (t2.to (t2.next+1)) M O a:=⟨rI,g.wait.mod b3 (λb d=>af b (.inr (.inl d)) λq=>a1 (q▸d)) λx hx b d=>af b (.inr (.inr (.inl ⟨x,hx,d⟩))) λq=>g.js x hx (q▸d),g.side.mod b3 λb d=>af b (.inr (.inr (.inr d))) λq=>S (q▸d),g.iB⟩;have SI:Step (λb=>F b\/cd k sw rs ss b) (λb=>U b\/cd k M O a b) H I:=by
     refine⟨SB.mod.trans' b3 λb d q=>?_,λb d=>?_⟩
     ·have:X b\/cd k M O a b:=q.elim .inl λu=>.inr (.inl u);exact(SB.own b this).resolve_right (by omega)
     ·rcases d with u|u
      ·rcases b0 b u with v|v
       ·exact SB.own b (.inl v)
       ·exact .inr (by omega)
      ·exact SB.own b (.inr u)
    refine ah (λL=>?_) λL=>?_
    ·have T:e≠0:=by simpa using L
     rw[if_pos (by simp only;rw[<-he];exact T)] at er;rw[eB,er] at V;unfold So.last at V;rw[if_pos (by simp only;rw[<-he];exact T)] at V;simp only at V;rw[<-he] at V;have q:=V U _ M O a I p4 qI (λu=>absurd u T) d4 SI;rw[if_neg T] at q;exact q
    ·have T:e=0:=by simpa using L
     rw[if_neg (by simp only;rw[<-he,T];simp)] at er;refine rI.ld (c:=ak) (i:=5) (x:=a) rfl ?_;refine rI.ld (c:=ab .i64) (i:=3) (x:=t2.frames) rfl ?_;rw[ec,<-bn];refine⟨⟨by omega,by omega⟩,?_⟩;simp only[N5];refine aj.st rI (i:=5) (by simp[ij]) rfl λI1 r1 m1 z1=>?_;have dn:nK I1 ⟨cw a.a a.c c 1,a.n - c,a.c - c⟩ (t2.side.drop c):=(qI.side.mod m1 λb d=>(b2 b d).1).cut (by show c<=t2.side.length;omega);refine r1.ld (c:=ak) (i:=5) (x:=⟨cw a.a a.c c 1,a.n - c,a.c - c⟩) rfl ?_;refine nK.push (x:=bU t2.name t2.next) dn (by rw[Ph];have:=Y.side;omega) λbs G oG mG gG=>?_;have an:∀b,ag (⟨cw a.a a.c c 1,a.n - c,a.c - c⟩:Sl) b->ag a b:=λb d=>AY d;have zG:=mG.size;have bb:∀b,ag bs b->ag a b\/B.size<=b:=λb d=>(gG b d).imp (an b) λu=>by omega
     have k5:¬ag bs k:=λq=>(bb k q).elim S λu=>by omega
     have rG:aj G k yJ (ij p {t2.to (t2.next+1) with side:=t2.side.drop c} M ⟨cw a.a a.c c 1,a.n - c,a.c - c⟩):=r1.mod mG λq=>S (an k q);refine aj.st rG (i:=5) (by simp[ij]) rfl λJ rJ mJ zJ=>?_;have bC:Mod (λb=>b=k\/ag a b) I J:=((m1.mono λb _ q=>.inl q).trans' mG λb _ q=>.inr (an b q)).trans' mJ λb _ q=>.inl q;have en:=bC.size;have b5:∀b,ag M b->¬(b=k\/ag a b):=λb d q=>q.elim (λu=>a1 (u▸d)) λu=>g.side.apart g.wait.out (by decide) b u d;have b6:∀x∈O,∀b,ag x b->¬(b=k\/ag a b):=λx hx b d q=>q.elim (λu=>g.js x hx (u▸d)) λu=>by
      obtain⟨l,hl⟩:=g.wait.rowAt hx;exact g.side.apart hl (by decide) b u d
     have sJ:nk J k p {t2.to (t2.next+1) with side:=t2.side.drop c++[bU t2.name t2.next]} M O bs:=⟨rJ,qI.wait.mod bC b5 b6,oG.mod mJ λb d q=>k5 (q▸d),g.iB⟩;refine⟨f,⟨U,M,O,bs,_,(fS (t2.side.take c) m).1,xx+2*N+3000,yy+3*N+9000,p4.keep λb d a7=>bC.same b a7 λq=>?_,sJ,λb d q=>?_,⟨SI.mod.trans' bC λb d q=>?_,λb d=>?_⟩,b4,by omega,by omega,⟨Y.name,Y.wait,?_,λn hn=>?_,by show t2.next+1<100;omega,Y.frames⟩,?_,fB,?_,by omega,wB,vB,?_⟩,Rn _⟩
     ·exact d4 b d (q.elim .inl λu=>.inr (.inr (.inr u)))
     ·rcases xL q bb with u|u
      ·exact d4 b d u
      ·have:=p4.lt b d;rcases q with v|v|v|v
       ·have:=g.lt b (.inl v);omega
       ·have:=g.lt b (.inr (.inl v));omega
       ·have:=g.lt b (.inr (.inr (.inl v)));omega
       ·rcases gG b v with w|w
        ·exact d4 b d (.inr (.inr (.inr (an b w))))
        ·omega
     ·have:X b\/cd k M O a b:=.inr (q.elim .inl λu=>.inr (.inr (.inr u)));exact(SB.own b this).resolve_right (by omega)
     ·rcases d with u|u
      ·exact SI.own b (.inl u)
      ·rcases xL u bb with v|v
       ·exact SI.own b (.inr v)
       ·exact .inr (by omega)
     ·show (t2.side.drop _++[_]).length<=1000;have:=Y.side;simp;omega
     ·rcases N6.1 (show n∈t2.side.drop c++[bU t2.name t2.next] from hn) with u|u
      ·exact Y.sizes n (QE u)
      ·rw[Oj] at u;subst u;exact bO
     ·show t2.next+1+(t2.side.drop _++[_]).length<=100;simp;omega
     ·show (t2.side.drop _++[_]).length<=f;simp;omega
     ·rw[eB,er]
  ·have a7:¬t2.frames<=(t2.side.length:Int):=by
    have:¬(a.n:Int)>=t2.frames:=by simpa using L
    omega
   have er:t2.rounds f s2=(s2,t2,0):=by
    cases f with
    |zero=>rfl
    |succ f=>exact if_neg a7
   rw[eB,er] at V;have a6:bN (aV t2.width t2.side s2).2.1<=N:=by
    rw[wB];exact hle X B s2 xx yy _ pB bB (by omega) (by omega) (by omega) Y.sizes
   have ed:So.last (s2,t2,0)=((fS t2.side (cK s2 t2.side t2.name t2.width)).1,{t2 with side:=t2.side.drop t2.side.length},(cK s2 t2.side t2.name t2.width).2.1,(fS t2.side (cK s2 t2.side t2.name t2.width)).2):=by
    unfold So.last;rw[if_neg (by simp)];show t2.merge s2 t2.side.length t2.name=_;unfold So.merge;rw[List.take_length]
   rw[ed] at V;simp only at V;refine g.row.ld (c:=av) (i:=0) (x:=aE p) rfl ?_;refine g.row.ld (c:=ak) (i:=5) (x:=a) rfl ?_;refine g.row.ld (c:=aK) (i:=1) (x:=t2.name) rfl ?_;refine g.row.ld (c:=ab .i64) (i:=2) (x:=t2.width) rfl ?_;have:0<=f*(2*N+3000):=On _;have:0<=f*(3*N+9000):=On _;have bl:∀b,ag a b->¬X b:=λb d q=>dB b q (.inr (.inr (.inr d)));have eo:=Y.side;refine uO pB cx (λA m=>(g.side.mod m bl).rd) Y.sizes (by have:=Y.name;omega) bB (by omega) (by omega) (by omega) a6 cb λF3 E pE SE=>?_;have bM:=pq (to:=t2.name) (W:=t2.width) bB (by omega) (by omega) a6 pE.frames;generalize cK s2 t2.side t2.name t2.width=m at*;have Z:¬F3 k:=λq=>(SE.own k q).elim P λu=>by omega
   refine⟨λe I=>e=(fS t2.side m).2/\∃U,ao U I p dp (fS t2.side m).1/\Step X U B I,?_,?_⟩
   ·refine ah (λL=>?_) λL=>?_
    ·have T:m.2.2=0:=by simpa using L
     have ed:fS t2.side m=je t2.side m.1:=if_neg (by rw[T];simp);rw[ed];have rE:=g.row.mod SE.mod P;refine rE.ld (c:=ak) (i:=5) (x:=a) rfl ?_;refine xP rE Z pE cx (λA m2=>((g.side.mod SE.mod bl).mod m2 λb d q=>(SE.own b q).elim (bl b d) λu=>by have:=g.side.lt b d;omega).rd) (by omega) bM (by omega) λU I p4 S4=>⟨rfl,U,p4,SE.trans S4⟩
    ·have T:m.2.2≠0:=by simpa using L
     have ed:fS t2.side m=(m.1,m.2.2):=if_pos T;rw[ed];exact⟨rfl,F3,pE,SE⟩
   ·rintro e I ⟨he,U,p4,S4⟩;rw[<-he] at V;have q:=V U t2 M O a I p4 (g.mod S4.mod λb d q=>dB b q d) (λ_=>vB) (λb d q=>(S4.own b d).elim (λu=>dB b u q) λu=>by have:=g.lt b q;omega) ⟨SB.mod.trans' S4.mod λb d q=>(SB.own b (.inl q)).resolve_right (by omega),λb d=>?_⟩
    ·refine ah (λL=>?_) λL=>?_
     ·have T:e≠0:=by simpa using L
      rw[if_neg T] at q;exact q
     ·have T:e=0:=by simpa using L
      rw[if_pos T] at q;rw[T] at q;exact q
    ·rcases d with u|u
     ·rcases S4.own b u with v|v
      ·exact SB.own b (.inl v)
      ·exact .inr (by omega)
     ·exact SB.own b (.inr u)
set_option maxRecDepth 100000 in
theorem E4 {K:(Int×Int)->aa->Prop}{x y N R:Nat}(h:nk H k p t sw rs ss)(hp:ao F H p dp s)(dis:∀b,F b->¬cd k sw rs ss b)(hz:vF t)(hw:t.wait.length<=900)(S:t.next+t.side.length+2<=100)(X:3<=t.frames)(b:Bd s x y)(hR:t.side.length+2<=R)(Y:N<=1000000000)(Z:x+400010+R*(2*N+3000)<=600000000000)(hy:y+805000+R*(3*N+9000)<=39000000000)
  (hle:Au p dp t.width (t.side.length+1) N)
  (e:∀F' j G I J H',ao F' H' p dp (t.done s).1->nk H' k p j G I J->j.ready=(t.done s).2.1.ready->(t.done s).2.1.ready≠0->(∀b,F' b->¬cd k G I J b)->Step (λb=>F b\/cd k sw rs ss b) (λb=>F' b\/cd k G I J b) H H'->K (((t.done s).2.2.1:Int),(t.done s).2.2.2) H'):Du.sp (aE k) H K:=by
 refine Du.of ?_;unfold Du.vc;refine jg h.row ?_;unfold So.done at e;refine ah (λL=>?_) (λL=>?_)
 ·have M:t.ready≠0:=by simpa using L
  rw[if_pos M] at e;exact e F t sw rs ss H hp h rfl M dis (.refl _ _)
 have M:¬t.ready≠0:=by simpa using L
 rw[if_neg M] at e;have T:t.wrong=0:=by
  unfold So.ready at M;by_cases q:t.wrong=0
  ·exact q
  ·rw[if_pos q] at M;exact absurd q M
 have gw:=So.As t s;refine Ia h hp dis hz hw T S X b hR Y Z hy hle λV j a o c A pA C vA dA SA=>?_;unfold aE;simp only[al];unfold So.ends at e;have O:=C.jE;have P:=C.nM;have go:∀(B:aa) (d:So),d.wait=j.wait->d.side=j.side->aj B k yJ (ij p d a c)->Mod (λb=>b=k) A B->B.size=A.size->nk B k p d a o c/\ao V B p dp (So.goes (t.first s)).1/\Step (λb=>F b\/cd k sw rs ss b) (λb=>V b\/cd k a o c b) H B:=λB d ew es U m z=>
  ⟨⟨U,by rw[ew];exact C.wait.mod m (λb D q=>O (q▸D)) λx Z b D q=>C.js x Z (q▸D),by rw[es];exact C.side.mod m λb D q=>P (q▸D),by rw[ew];exact C.iB⟩,pA.keep λb D af=>m.same b af λq=>dA b D (.inl q),⟨SA.mod.trans' m λb D q=>(SA.own b (.inr (.inl q))).resolve_right (by omega),SA.own⟩⟩
 generalize So.goes (t.first s)=g at*;refine ah (λL=>?_) (λL=>?_)
 ·have E:g.2.2.2≠0:=by simpa using L
  rw[if_pos E] at e;refine aj.st C.row (i:=7) (by simp[ij]) rfl λB U mB zB=>?_;obtain⟨q0,q1,q2⟩:=go B {j with wrong:=g.2.2.2} rfl rfl U mB zB;have r1:({j with wrong:=g.2.2.2}:So).ready=g.2.2.2:=by unfold So.ready;exact if_pos E
  have r2:({g.2.1 with wrong:=g.2.2.2}:So).ready=g.2.2.2:=by unfold So.ready;exact if_pos E
  exact e V _ a o c B q1 q0 (r1.trans r2.symm) (by rw[r2];exact E) dA q2
 ·have E:g.2.2.2=0:=by simpa using L
  rw[if_neg (by rw[E];simp)] at e;rw[if_pos E];refine aj.st C.row (i:=8) (by simp[ij]) rfl λB U mB zB=>?_;obtain⟨q0,q1,q2⟩:=go B {j with closed:=true} rfl rfl U mB zB;have v1:=vA E;have r1:({j with closed:=true}:So).ready=2:=by unfold So.ready;rw[if_neg (by simp only;rw[v1];simp)];rfl
  have r2:({g.2.1 with closed:=true}:So).ready=2:=by unfold So.ready;rw[if_neg (by simp only;rw[gw,T];simp)];rfl
  exact e V _ a o c B q1 q0 (r1.trans r2.symm) (by rw[r2];decide) dA q2
end
abbrev Lq:=Int×ByteArray×Int×Int×Int
section
variable {H A:aa}{script:Sl}{xs:List Lq}{R:Bool->aa->Prop}
end
structure dg (H0 A:aa)(X1 X2:Nat->Prop):Prop where
 ext:Ext H0 A
 n1:∀b,X1 b->H0.size<=b
 n2:∀b,X2 b->H0.size<=b
 dis:∀b,X1 b->¬X2 b
section
variable {H0 A B:aa}{X1 X2 X':Nat->Prop}
theorem dg.qw (h:dg H0 A X1 X2)(S:Step X1 X' A B)(c:∀b,X2 b->b<A.size):dg H0 B X' X2:=by
 have z:=h.ext.size;refine⟨⟨Oo z S.mod.size,λb a _=>(S.mod.same b (by omega) λq=>by have:=h.n1 b q;omega).trans (h.ext.same b a id)⟩,λb a=>?_,h.n2,λb a q=>?_⟩
 ·rcases S.own b a with u|u
  ·exact h.n1 b u
  ·omega
 ·rcases S.own b a with u|u
  ·exact h.dis b u q
  ·have:=c b q;omega
theorem dg.nh (h:dg H0 A X1 X2)(S:Step X2 X' A B)(c:∀b,X1 b->b<A.size):dg H0 B X1 X':=by
 have z:=h.ext.size;refine⟨⟨Oo z S.mod.size,λb a _=>(S.mod.same b (by omega) λq=>by have:=h.n2 b q;omega).trans (h.ext.same b a id)⟩,h.n1,λb a=>?_,λb a q=>?_⟩
 ·rcases S.own b a with u|u
  ·exact h.n2 b u
  ·omega
 ·rcases S.own b q with u|u
  ·exact h.dis b a u
  ·have:=c b a;omega
theorem dg.go (h:dg H0 A X1 X2)(e:Ext A B):dg H0 B X1 X2:=⟨h.ext.trans e,h.n1,h.n2,h.dis⟩
theorem dg.sub {Y1 Y2:Nat->Prop}(h:dg H0 A X1 X2)(s1:∀b,Y1 b->X1 b)(s2:∀b,Y2 b->X2 b):dg H0 A Y1 Y2:=⟨h.ext,λb a=>h.n1 b (s1 b a),λb a=>h.n2 b (s2 b a),λb a q=>h.dis b (s1 b a) (s2 b q)⟩
end
section
variable {H A:aa}{R:Bool->aa->Prop}
set_option maxHeartbeats 2000000 in
theorem Dj {quota pool fr wd q keep:Int}{K:(Option Addr×Option Addr×Option Addr×Option Addr)->aa->Prop}(Z:Gl H)(hq:quota<=9223372036854775807)(hp:q<=9223372036854775807)
  (hK:∀B dp dm p m o z h j,j<12->dg H B o z->au o B p dp (qQ h (8+j))->ao z B m dm (qQ h (8+j))->h.aB=0->K (aE dp,aE dm,aE p,aE m) B):I7.sp quota pool fr wd q keep H K:=by
 refine I7.of ?_;unfold I7.vc;refine ax λA z0 y I=>?_;obtain⟨E,J⟩:∃E,E=H.size:=⟨_,rfl⟩;rw[<-J] at y ⊢;refine⟨λB=>aj B E DO #[(.int .i64 quota),(.int .i64 pool),(.int .i64 fr),(.int .i64 wd),(.int .i64 q),(.int .u64 keep)],y,?_⟩;refine y.ld (c:=ab .i64) (i:=0) (x:=quota) rfl ?_;refine Gc hq λL d H1 a1 M f1=>?_;have r1:=y.ext M;refine⟨r1,?_⟩;refine aj.dv (c:=ab .i64) (i:=0) (x:=quota) (cs:=λ_=>_) (λ_ q=>q) (λ_ _=>rfl) ?_;refine IA hq λN n H2 a2 e2 f2=>?_;have r2:=r1.ext e2;have an:=aA y;have C:=I.size;have z1:=M.size;have z2:=e2.size;have D:bo L H2 d (q9 quota):=a1.keep λb e a=>e2.same b a id;have l1:=a1.lt;refine⟨λ_ B=>∃h O G,bo O B d h/\cj G B n h/\dg A B O G/\h.aB=0,?_,?_⟩
 ·have g0:dg A H2 L N:=⟨M.trans e2,f1,λb e=>Oo z1 (f2 b e),λb e P=>by have:=l1 b e;have:=f2 b P;omega⟩;refine r2.ld (c:=ab .i64) (i:=4) (x:=q) rfl ?_;refine ah (λS=>?_) (λS=>⟨_,L,N,D,a2,g0,rfl⟩);refine r2.ld (c:=ab .i64) (i:=4) (x:=q) rfl ?_;refine r2.ld (c:=ab .u64) (i:=5) (x:=keep) rfl ?_;refine Gj D hp λT A1 c1 U=>?_;have g1:=g0.qw U a2.lt;have k2:cj N A1 n (q9 quota):=a2.keep λb e a=>U.mod.same b a λu=>g0.dis b u e;have r3:=r2.mod U.mod λu=>by have:=g0.n1 E u;omega
  refine r3.ld (c:=ab .i64) (i:=4) (x:=q) rfl ?_;refine r3.ld (c:=ab .u64) (i:=5) (x:=keep) rfl ?_;refine Di k2 hp λV A2 c2 S2=>?_;exact⟨_,T,V,c1.keep λb e a=>S2.mod.same b a λu=>g1.dis b e u,c2,g1.nh S2 c1.lt,by rw[Dk.tH];rfl⟩
 rintro _ B ⟨h,O,G,b1,b2,g,X⟩;have gB:Gl B:=Z.mod (I.trans g.ext) id;have a6:=Z.lt;have rB:=y.ext g.ext;refine rB.ld (c:=ab .i64) (i:=1) (x:=pool) rfl ?_;refine Fo (by omega) ?_;rw[if_neg (by omega)];obtain⟨j,hj⟩:∃j:Nat,pool.emod 12=(j:Int):=⟨(pool.emod 12).toNat,(Int.toNat_of_nonneg (Int.emod_nonneg pool (by decide))).symm⟩;have af:(j:Int)<12:=hj▸Int.emod_lt_of_pos pool (by decide);rw[hj,wrap64 (by omega) (by omega)];have hm:(8:Int)+(j:Int)=((8+j:Nat):Int):=by omega
 rw[hm];refine tk gB b1 (λu=>by have:=g.n1 _ u;omega) (by omega) (by omega) λo p B1 h1 x1 w1=>?_;have Y:=b2.lt;have g2:dg A B1 o G:=g.qw ⟨x1.mono λ_ _ u=>u.elim,w1⟩ Y;refine Fj (b2.keep λb e a=>x1.same b a id) (by omega) (by omega) λz m B2 h2 x2 w2=>?_;have g3:dg A B2 o z:=g2.nh ⟨x2.mono λ_ _ u=>u.elim,w2⟩ h1.lt;exact hK B2 d n p m o z h j (by omega) ⟨I.trans g3.ext,λb e=>Oo C (g3.n1 b e),λb e=>Oo C (g3.n2 b e),g3.dis⟩ (h1.ext x2) h2 X
set_option maxHeartbeats 2000000 in
theorem uC {H0:aa}{dp dm p m:Nat}{F1 F2:Nat->Prop}{s:Pl}{K:Bool->aa->Prop}(h:dg H0 A F1 F2)(c1:au F1 A p dp s)(c2:ao F2 A m dm s)(hg:Gl H0)(a7:s.next<1099511627776)(hl:s.d.aB<34359738368)
  (hK:∀B,Ext H0 B->K true B):GA.sp (aE dp) (aE dm) (aE p) (aE m) A K:=by
 refine GA.of ?_;unfold GA.vc;have gA:Gl A:=hg.mod h.ext id;obtain⟨D1,P,i1,_⟩:=c1.cu gA;obtain⟨D2,a2,i2,_⟩:=c2.cu;obtain⟨ll,G,I,a8⟩:=c2.head;have U:=a2;obtain⟨fl,gs,cin,kp,g,bb⟩:=U;refine⟨λB=>aj B dm wL (c9 fl s.d.most s.d.quota s.d.ops s.d.next s.d.crash.isSome cin kp s.d.down)/\aj B m rv (dG dm ll s),⟨g.head,G⟩,?_⟩;refine Lg P ⟨⟨g.head,G⟩,?_⟩;refine aX ⟨dm,0,none⟩ rfl ?_;refine aj.dv (c:=ab .i64) (i:=3) (x:=(s.d.ops:Int)) (cs:=λ_=>c9 fl s.d.most s.d.quota s.d.ops s.d.next s.d.crash.isSome cin kp s.d.down) (λB q=>q.1) (λ_ _=>rfl) ?_;refine aC (by simp) ?_;refine IJ P ⟨⟨g.head,G⟩,?_⟩;refine aX ⟨dm,0,none⟩ rfl ?_;refine aj.dv (c:=ay) (i:=8) (x:=s.d.down) (cs:=λ_=>c9 fl s.d.most s.d.quota s.d.ops s.d.next s.d.crash.isSome cin kp s.d.down) (λB q=>q.1) (λ_ _=>rfl) ?_;refine aC (by simp) ?_;refine HW P ⟨⟨g.head,G⟩,?_⟩;refine aX ⟨dm,0,none⟩ rfl ?_;refine aj.dv (c:=ab .i64) (i:=1) (x:=(s.d.most:Int)) (cs:=λ_=>c9 fl s.d.most s.d.quota s.d.ops s.d.next s.d.crash.isSome cin kp s.d.down) (λB q=>q.1) (λ_ _=>rfl) ?_;refine aC (by simp) ?_;refine yz c1 ⟨⟨g.head,G⟩,?_⟩;refine aX ⟨m,0,none⟩ rfl ?_;refine aj.dv (c:=ak) (i:=2) (x:=ll) (cs:=λ_=>dG dm ll s) (λB q=>q.2) (λ_ _=>rfl) ?_;refine aC (by rw[I];simp) ?_;refine BR c1 (by omega) λA1 S=>?_;refine xU (c2.ext S) (aC (by simp) ?_);have b1:=P.keep λb o d=>S.same b d id;have b2:=a2.keep λb o d=>S.same b d id;have g1:dg H0 A1 D1 D2:=(h.sub i1 i2).go S;refine Ah b1 (by omega) λJ B1 q1 S1=>?_;have g2:=g1.qw S1 b2.lt;have V:cj D2 B1 dm s.d:=b2.keep λb o d=>S1.mod.same b d λq=>g1.dis b q o;refine w8 V (by omega) λX B2 Y S2=>?_;have g3:=g2.nh S2 q1.lt;have L:bo J B2 dp s.d.cQ:=q1.keep λb o d=>S2.mod.same b d λq=>g2.dis b o q;have e2:=g3.ext;have bd:=s.d.vR;generalize s.d.cQ=t at*;have I:t.list.length<=4096:=by
  unfold Dk.list;split
  ·simp
  ·rw[(OX _ _).length_eq];simp;exact Y.wf.files
 refine AL L λl B3 o3 m3 g3=>?_;refine FX (Y.keep λb o d=>m3.same b d id) λl2 z o4 m4 g4=>?_;refine wv (o3.ext m4) o4 (by omega) ?_;refine aC rfl ?_;have m24:Ext B2 z:=m3.trans m4;have d1:bo J z dp t:=L.keep λb o d=>m24.same b d id;have d2:cj X z dm t:=Y.keep λb o d=>m24.same b d id;have o5:az EN dH z l t.list:=o3.ext m4;have hn:=az.n o5 (by decide);have e5:Ext H0 z:=e2.trans m24;refine ar t.list.length (λk x B=>x=(k:Int)/\Ext z B) ⟨rfl,.refl _ _⟩ ?_;rintro k _ B6 next hk ⟨rfl,T⟩ C
 refine ah (λZ=>?_) (λZ=>hK B6 (e5.trans T));have M:k<t.list.length:=by rw[hn] at Z;simpa using Z
 have D:∀{B:aa} {K:ByteArray->Prop},Ext z B->K (cC t.list[k])->ae l.a λa=>(0<=(k:Int)/\(k:Int)<(l.n:Int))/\Go.Proofs.YtmkbhnholcaghaaGreatDoor.ld aK B (a.add ((k:Int).toNat*1)) K:=λe h=>re (o5.ext e) M h;refine D T ?_;generalize cC t.list[k]=nm at*;refine mX (d2.keep λb o d=>T.same b d id) (by omega) λB7 e7=>?_;have hlen:=Dk.jV d2.wf nm;refine ar ((t.len nm).1+1) (λj x B=>x=(j:Int)/\Ext z B) ⟨rfl,T.trans e7⟩ ?_;rintro j _ B8 af hj ⟨rfl,E⟩ y;refine ah (λN=>?_) (λN=>C M _ _ ⟨aD k (by omega),E⟩);have an:j<(t.len nm).1+1:=by simp at N;omega
 refine D E ?_;refine AS (d1.keep λb o d=>E.same b d id) λr9 B9 o9 e9 g9=>?_;refine D (E.trans e9) ?_;refine FN (d2.keep λb o d=>(E.trans e9).same b d id) (by omega) λbl bn a6 O g10=>?_;refine aC (by simp) ?_;refine kC (bV (o9.ext O)) ?_;refine kC a6 ?_;refine aC (by simp) ?_;exact y an _ _ ⟨aD j (by omega),(E.trans e9).trans O⟩
end
theorem gV.Mo {H:aa}{base:Nat}{r:Sl}{l:List Int}(h:gV H base r l):aM H base gR 1 r (l.map (Oe .u64)):=by
 have b:=h.len;obtain⟨h1,o⟩:=h.own;refine⟨by simp[b],.inr ?_⟩;rcases o with ⟨_,d⟩|⟨g,cap,cur,i,q,x,d,y,z,j⟩
 ·simp at d
 ·cases r with
  |mk a n c=>
    simp only[Sl.v,Oi] at i;obtain⟨C,_,D⟩:=i;simp only at b d j;refine⟨g,cap,cur,by simp[Sl.v,C,D],q,x,by show n<=cap;omega,y,z,?_⟩;have e:=congrArg (List.take n) j;rw[List.take_take,OG,V6 (by simp[b])] at e;have E:min n ((n+1)*1)=n:=by omega
    rw[E] at e;show cur.toList.take (n*1)=_;rw[OY];exact e
theorem Rows.go {H0:aa}{s:Sl}{ls:List (List Int)}(h:Rows H0 s ls){i:Nat}(hi:i<ls.length):∃r,Ints .u64 H0 r (ls[i]'hi)/\∀(B:aa) (K:Sl->Prop),Ext H0 B->K r->ae s.a λa=>(0<=(i:Int)/\(i:Int)<(s.n:Int))/\Go.Proofs.YtmkbhnholcaghaaGreatDoor.ld ak B (a.add ((i:Int).toNat*1)) K:=by
 obtain⟨ad,r,e,b,c⟩:=h.at' i hi;refine⟨r,c,λB K e2 d=>aX ad e ⟨⟨by omega,by rw[h.len];omega⟩,r,?_,d⟩⟩;rw[N5,OY];exact Mod.cell e2 b id
def yg:ByteArray:=O6 #[102]
theorem So.KO {t:So}{s:Pl}{l:List Int}{x y:Nat}(h:Bd s x y)(d:x<800000000000)(hw:t.wait.length<400000)(a:(t.add s l).1.fs.length<=4096):Bd (t.add s l).1 (x+400010) (y+805000):=by
 unfold So.add at a ⊢;split at a
 ·rename_i e;rw[if_pos e];exact h.mono (by omega) (by omega)
 ·rename_i e;rw[if_neg e];split at a
  ·rename_i b;rw[if_pos b];exact h.mono (by omega) (by omega)
  ·rename_i b;rw[if_neg b];split at a
   ·rename_i e2;rw[if_pos e2];exact h.mono (by omega) (by omega)
   ·rename_i e2;rw[if_neg e2];have c:=jH (t.wait++[l]);have hl:(t.wait++[l]).length<=400000:=by simp;omega
    exact(rZ h (by show _+(eO (jL (t.wait++[l]))).length<_;omega) a).mono (by show _+(eO (jL (t.wait++[l]))).length+10<=_;omega) (by show _+2*(eO (jL (t.wait++[l]))).length+5000<=_;omega)
theorem So.kX {t:So}:t.ready=0↔t.wrong=0/\t.closed=false:=by
 unfold So.ready;constructor
 ·intro h;by_cases q:t.wrong=0
  ·rw[if_neg (by rw[q];simp)] at h;refine⟨q,?_⟩;cases e:t.closed with
   |true=>rw[e] at h;simp at h
   |false=>rfl
  ·rw[if_pos q] at h;exact absurd h q
 ·rintro⟨h1,a⟩;rw[h1,a];rfl
theorem zl {x:Int}(h:aH x≠0):0<=x/\x<=16:=by
 rcases Decidable.em (x<0\/x>16) with q|q
 ·refine absurd ?_ h;unfold aH bz;rw[if_pos q];rfl
 ·omega
structure zg (t:So)(w fr i:Nat):Prop where
 name:t.name=yg
 width:t.width=(w:Int)
 frames:t.frames=(fr:Int)
 cnt:t.side.length*(fr*yN w)+t.wait.length<=i
 next:t.next=t.side.length
 sizes:∀n∈t.side,n.size<=9223372036854775807
 ready:t.ready=0
section
variable {t:So}{w fr i:Nat}
theorem zg.iB (h:zg t w fr i)(hw:w<=16)(a:3<=fr)(hi:i<=400):t.side.length<=44/\t.wait.length<=400/\t.side.length*yN w<=133/\yN w<=504:=by
 obtain⟨b,r2,_,d⟩:=kZ (On w) hw;have c:=h.cnt;have h1:t.side.length*(3*yN w)<=t.side.length*(fr*yN w):=Vr _ (OE _ a);rw[UJ] at h1;have e:t.side.length*3<=t.side.length*yN w:=Vr _ r2;omega
theorem zg.LY (h:zg t w fr i)(hw:w<=16)(c:3<=fr)(d:fr<=100)(hi:i<=400):vF t:=by
 obtain⟨a,b,_,_⟩:=h.iB hw c hi;refine⟨by rw[h.name];decide,by omega,by omega,h.sizes,by rw[h.next];omega,by rw[h.frames];omega⟩
theorem zg.add (h:zg t w fr i)(hw:w<=16)(b:3<=fr)(hi:i<=400)(s:Pl)(l:List Int):zg (t.add s l).2.1 w fr (i+1)\/(t.add s l).2.1.ready≠0:=by
 obtain⟨d,r2,_,o⟩:=kZ (On w) hw;obtain⟨f1,_⟩:=h.iB hw b hi;have c:=h.cnt;obtain⟨g,a⟩:=So.kX.1 h.ready;unfold So.add;rw[if_neg (by rw[h.ready];simp)];split
 ·exact .inl ⟨h.name,h.width,h.frames,Nat.le_succ_of_le c,h.next,h.sizes,h.ready⟩
 ·split
  ·refine .inl ⟨h.name,h.width,h.frames,?_,h.next,h.sizes,So.kX.2 ⟨g,a⟩⟩;show t.side.length*(fr*yN w)+(t.wait++[l]).length<=i+1;rw[Oy,PW];omega
  ·rename_i _ q;rw[h.frames,h.width,d] at q;have q:fr*yN w<=t.wait.length+1:=by
    have:((fr*yN w:Nat):Int)=(fr:Int)*(yN w:Int):=by simp
    omega
   by_cases e:({t with wait:=t.wait++[l]}.aside s).2.2=0
   ·left;refine⟨h.name,h.width,h.frames,?_,?_,λn j=>?_,So.kX.2 ⟨e,a⟩⟩
    ·show (t.side++[_]).length*(fr*yN w)+0<=i+1;rw[Oy,PW,O7];omega
    ·show t.next+1=(t.side++[_]).length;rw[Oy,PW,h.next]
    ·rcases N6.1 (show n∈t.side++[bU t.name t.next] from j) with u|u
     ·exact h.sizes n u
     ·rw[Oj] at u;subst u;have:=cI (n:=t.next) (by rw[h.next];omega);rw[dQ,h.name];have:yg.size=1:=rfl;omega
   ·exact .inr λq=>e (So.kX.1 q).1
theorem Mr {S r:Nat}(h1:S<=44)(b:S*r<=133)(d:r<=504):(S+1)*(r*1048576)<=667942912/\(S+2)*(2*((S+1)*(r*1048576))+3000)<=16000000000/\(S+2)*(3*((S+1)*(r*1048576))+9000)<=23000000000:=by
 have c:(S+1)*(r*1048576)=(S*r+r)*1048576:=by rw[<-Wu,O7]
 have e2:(S+2)*(S*r+r)<=7259:=by
  have a:S*(S*r)<=44*133:=Nat.mul_le_mul h1 b;rw[Nat.add_mul,VN];omega
 have e:(S+2)*((S*r+r)*1048576)<=7259*1048576:=by
  rw[<-Wu];exact OE _ e2
 rw[c];refine⟨by omega,?_,?_⟩
 ·rw[VN,UJ];omega
 ·rw[VN,UJ];omega
end
def gW (A:aa)(d p k:Nat)(X:Nat->Prop)(s:Pl)(t:So):Prop:=∃F sw rs ss,X=(λb=>F b\/cd k sw rs ss b)/\au F A p d s/\qF A k p t sw rs ss/\∀b,F b->¬cd k sw rs ss b
def jG (A:aa)(d p k:Nat)(X:Nat->Prop)(s:Pl)(t:So):Prop:=∃F sw rs ss,X=(λb=>F b\/cd k sw rs ss b)/\ao F A p d s/\nk A k p t sw rs ss/\∀b,F b->¬cd k sw rs ss b
def kM (A:aa)(d p k:Nat)(X:Nat->Prop)(s:Pl)(t:So):Prop:=∃F sw ss,X=(λb=>F b\/b=k)/\au F A p d s/\aj A k vQ (ij p t sw ss)/\¬F k
def kI (A:aa)(d p k:Nat)(X:Nat->Prop)(s:Pl)(t:So):Prop:=∃F sw ss,X=(λb=>F b\/b=k)/\ao F A p d s/\aj A k yJ (ij p t sw ss)/\¬F k
section
variable {A B:aa}{d p k:Nat}{X G:Nat->Prop}{s:Pl}{t:So}
theorem gW.lt (h:gW A d p k X s t):∀b,X b->b<A.size:=by
 obtain⟨F,sw,rs,ss,rfl,h1,a,_⟩:=h;exact λb c=>c.elim (h1.lt b) (a.lt b)
theorem jG.lt (h:jG A d p k X s t):∀b,X b->b<A.size:=by
 obtain⟨F,sw,rs,ss,rfl,h1,a,_⟩:=h;exact λb c=>c.elim (h1.lt b) (a.lt b)
theorem kM.lt (h:kM A d p k X s t):∀b,X b->b<A.size:=by
 obtain⟨F,sw,ss,rfl,h1,a,_⟩:=h;exact λb c=>c.elim (h1.lt b) λu=>u▸aA a
theorem kI.lt (h:kI A d p k X s t):∀b,X b->b<A.size:=by
 obtain⟨F,sw,ss,rfl,h1,a,_⟩:=h;exact λb c=>c.elim (h1.lt b) λu=>u▸aA a
theorem gW.mod (h:gW A d p k X s t)(m:Mod G A B)(c:∀b,X b->¬G b):gW B d p k X s t:=by
 obtain⟨F,sw,rs,ss,rfl,h1,e,g⟩:=h;exact⟨F,sw,rs,ss,rfl,h1.keep λb a hl=>m.same b hl (c b (.inl a)),e.mod m λb a=>c b (.inr a),g⟩
theorem jG.mod (h:jG A d p k X s t)(m:Mod G A B)(c:∀b,X b->¬G b):jG B d p k X s t:=by
 obtain⟨F,sw,rs,ss,rfl,h1,e,g⟩:=h;exact⟨F,sw,rs,ss,rfl,h1.keep λb a hl=>m.same b hl (c b (.inl a)),e.mod m λb a=>c b (.inr a),g⟩
theorem kM.mod (h:kM A d p k X s t)(m:Mod G A B)(a:∀b,X b->¬G b):kM B d p k X s t:=by
 obtain⟨F,sw,ss,rfl,h1,c,e⟩:=h;exact⟨F,sw,ss,rfl,h1.keep λb g hl=>m.same b hl (a b (.inl g)),c.mod m (a k (.inr rfl)),e⟩
theorem kI.mod (h:kI A d p k X s t)(m:Mod G A B)(a:∀b,X b->¬G b):kI B d p k X s t:=by
 obtain⟨F,sw,ss,rfl,h1,c,e⟩:=h;exact⟨F,sw,ss,rfl,h1.keep λb g hl=>m.same b hl (a b (.inl g)),c.mod m (a k (.inr rfl)),e⟩
theorem gW.die (h:gW A d p k X s t):∃Y,kM A d p k Y s t/\∀b,Y b->X b:=by
 obtain⟨F,sw,rs,ss,rfl,h1,a,c⟩:=h;exact⟨_,⟨F,sw,ss,rfl,h1,a.rd.row,λq=>c k q (.inl rfl)⟩,λb e=>e.imp id λu=>.inl u⟩
theorem jG.die (h:jG A d p k X s t):∃Y,kI A d p k Y s t/\∀b,Y b->X b:=by
 obtain⟨F,sw,rs,ss,rfl,h1,a,c⟩:=h;exact⟨_,⟨F,sw,ss,rfl,h1,a.row,λq=>c k q (.inl rfl)⟩,λb e=>e.imp id λu=>.inl u⟩
variable {w fr i:Nat}{l:Sl}{ll:List Int}
theorem gW.add {K:Int->aa->Prop}{x y:Nat}(h:gW A d p k X s t)(z:Gl A)(C:¬X bg)(a:zg t w fr i)(hw:w<=16)(j:3<=fr)(D:fr<=100)(hi:i<=400)(hl:Ints .u64 A l ll)(b:Bd s x y)(o:x<800000000000)(E:y<50000000000)
  (I:∀X' B,gW B d p k X' (t.add s ll).1 (t.add s ll).2.1->Step X X' A B->Bd (t.add s ll).1 (x+400010) (y+805000)->K (t.add s ll).2.2 B):xA.sp (aE k) l A K:=by
 obtain⟨F,sw,rs,ss,rfl,h1,J,L⟩:=h;obtain⟨f1,f2,_⟩:=a.iB hw j hi;exact IC z (λq=>C (.inr q)) J h1 L (a.LY hw j D hi) (by omega) (by rw[a.width];omega) hl b o E λF' c e g B p1 s1 d1 M=>I _ B ⟨F',c,e,g,rfl,p1,s1,d1⟩ M (So.KO b o (by omega) p1.frames)
theorem jG.add {K:Int->aa->Prop}{x y:Nat}(h:jG A d p k X s t)(a:zg t w fr i)(hw:w<=16)(j:3<=fr)(o:fr<=100)(hi:i<=400)(hl:Ints .u64 A l ll)(b:Bd s x y)(q:x<800000000000)(z:y<50000000000)
  (C:∀X' B,jG B d p k X' (t.add s ll).1 (t.add s ll).2.1->Step X X' A B->K (t.add s ll).2.2 B):C7.sp (aE k) l A K:=by
 obtain⟨F,sw,rs,ss,rfl,h1,D,E⟩:=h;obtain⟨f1,f2,_⟩:=a.iB hw j hi;exact Hl D h1 E (a.LY hw j o hi) (by omega) (by rw[a.width];omega) hl b q z λF' c e g B p1 s1 d1 I=>C _ B ⟨F',c,e,g,rfl,p1,s1,d1⟩ I
theorem kM.add {K:Int->aa->Prop}(h:kM A d p k X s t)(a:t.ready≠0)(b:K t.ready A):xA.sp (aE k) l A K:=by
 obtain⟨F,sw,ss,rfl,h1,c,_⟩:=h;refine xA.of ?_;unfold xA.vc;exact kf c (aP (by simpa using a) b)
theorem kI.add {K:Int->aa->Prop}(h:kI A d p k X s t)(a:t.ready≠0)(b:K t.ready A):C7.sp (aE k) l A K:=by
 obtain⟨F,sw,ss,rfl,h1,c,_⟩:=h;refine C7.of ?_;unfold C7.vc;exact jg c (aP (by simpa using a) b)
theorem kM.done {K:(Int×Int)->aa->Prop}(h:kM A d p k X s t)(a:t.ready≠0)(b:K (0,t.ready) A):CH.sp (aE k) A K:=by
 obtain⟨F,sw,ss,rfl,h1,c,_⟩:=h;refine CH.of ?_;unfold CH.vc;exact kf c (aP (by simpa using a) b)
theorem kI.done {K:(Int×Int)->aa->Prop}(h:kI A d p k X s t)(a:t.ready≠0)(b:K (0,t.ready) A):Du.sp (aE k) A K:=by
 obtain⟨F,sw,ss,rfl,h1,c,_⟩:=h;refine Du.of ?_;unfold Du.vc;exact jg c (aP (by simpa using a) b)
theorem zg.bounds (a:zg t w fr i)(hw:w<=16)(b:3<=fr)(hi:i<=400):∃N,(t.side.length+1)*((aH t.width).toNat*1048576)<=N/\N<=1000000000/\(t.side.length+2)*(2*N+3000)<=16000000000/\(t.side.length+2)*(3*N+9000)<=23000000000/\t.next+t.side.length+2<=100:=by
 obtain⟨f1,f2,f3,f4⟩:=a.iB hw b hi;obtain⟨c,_⟩:=kZ (On w) hw;obtain⟨h,e,g⟩:=Mr f1 f3 f4;refine⟨_,?_,?_,e,g,by rw[a.next];omega⟩
 ·rw[a.width,c,N5];exact N3 _
 ·omega
theorem gW.done {K:(Int×Int)->aa->Prop}{x y:Nat}(h:gW A d p k X s t)(z:Gl A)(C:¬X bg)(a:zg t w fr i)(hw:w<=16)(c:3<=fr)(D:fr<=100)(hi:i<=400)(b:Bd s x y)(P:x<100000000000)(S:y<1000000000)
  (E:∀X' B,kM B d p k X' (t.done s).1 (t.done s).2.1->Step X X' A B->(t.done s).1.next<1099511627776->(t.done s).1.d.aB<34359738368->K (((t.done s).2.2.1:Int),(t.done s).2.2.2) B):CH.sp (aE k) A K:=by
 obtain⟨F,sw,rs,ss,rfl,h1,I,J⟩:=h;obtain⟨f1,f2,_⟩:=a.iB hw c hi;obtain⟨N,n1,n2,T,U,n5⟩:=a.bounds hw c hi;refine Eb (N:=N) (R:=t.side.length+2) z (λq=>C (.inr q)) I h1 J (a.LY hw c D hi) n5 (by rw[a.frames];omega) b (N3 _) n2 (by omega) (by omega) (λ_=>.inr (LH (by omega) n1)) λF' e L g B p1 M d1 j o=>?_;have V:=o.hi;have Y:=o.aB;exact E _ B ⟨F',e,g,rfl,p1,M,λq=>d1 k q (.inl rfl)⟩ ⟨j.mod,λb O=>j.own b (O.imp id .inl)⟩ (by omega) (by omega)
theorem jG.done {K:(Int×Int)->aa->Prop}{x y:Nat}(h:jG A d p k X s t)(a:zg t w fr i)(hw:w<=16)(e:3<=fr)(z:fr<=100)(hi:i<=400)(b:Bd s x y)(M:x<100000000000)(O:y<1000000000)
  (C:∀X' c B,kI B d p k X' (t.done s).1 c->c.ready=(t.done s).2.1.ready->(t.done s).2.1.ready≠0->Step X X' A B->K (((t.done s).2.2.1:Int),(t.done s).2.2.2) B):Du.sp (aE k) A K:=by
 obtain⟨F,sw,rs,ss,rfl,h1,D,E⟩:=h;obtain⟨f1,f2,_⟩:=a.iB hw e hi;obtain⟨N,n1,n2,P,S,n5⟩:=a.bounds hw e hi;refine E4 (N:=N) (R:=t.side.length+2) D h1 E (a.LY hw e z hi) (by omega) n5 (by rw[a.frames];omega) b (N3 _) n2 (by omega) (by omega) (KD (by omega) n1) λF' c g I j B p1 s1 J e2 d1 o=>?_;exact C _ c B ⟨F',g,j,rfl,p1,s1.row,λq=>d1 k q (.inl rfl)⟩ J e2 ⟨o.mod,λb L=>o.own b (L.imp id .inl)⟩
end
def BC:Pl:=qQ (q9 20) 8
def Dm (l:List (List Int)):So:={Jo yg 1 3 with wait:=l}
def MF:Pl:=(hY BC (bU yg 0) 1 [[1],[5]]).1
def yO:Pl×So×Nat×Int:=So.goes (MF,(Dm [[5],[1],[5]]).iI,0)
def Im:RR:=(rnOpen yO.1 yg 1).2.1.getD default
def Is:Pl:=(rnOpen yO.1 yg 1).1
theorem LU:eO (jL [[5],[1],[5]])=[[1],[5]]:=by
 refine vI (ti _) (by simp[yd,uN,aT]) λy=>?_;rw[mL];simp only[List.mem_cons,List.not_mem_nil,or_false];constructor
 ·rintro(h|h|h)<;>simp[h]
 ·rintro(h|h)<;>simp[h]
set_option maxRecDepth 100000 in
theorem MK:((hY BC (bU yg 0) 1 [[1],[5]]).2==0&&yO.2.2.2==0&&yO.2.2.1==2&&decide (0<=yO.1.next)&&(rnOpen yO.1 yg 1).2.1.isSome&&(rnOpen yO.1 yg 1).2.2==0&&(Im.next Is).2.2==([1],true,0)&&!(Im.next Is).1.d.down&&(Im.next Is).1.d.files.length==1&&decide (0<=Is.next)&&decide (Is.next<1000)&&decide (Is.d.aB<1000))=true:=by decide+kernel
theorem fR (l:List (List Int))(x:Int)(h:l.length<3):(Dm l).add BC [x]=(BC,Dm (l++[[x]]),0):=by
 unfold So.add;rw[if_neg (by show ¬(0:Int)≠0;decide),if_neg (by show ¬(1:Int)≠1;decide),if_pos]
 ·rfl
 ·show ((l.length+1:Nat):Int)<3*aH 1;rw[show aH 1=63 by decide];omega
theorem Ln:(Dm [[5],[1],[5]]).done BC=(yO.1,{yO.2.1 with closed:=true},2,0):=by
 have h:=MK;simp only[Ob,beq_iff_eq,decide_eq_true_eq] at h;obtain⟨⟨⟨⟨⟨⟨⟨⟨⟨⟨⟨h1,a⟩,b⟩,_⟩,_⟩,_⟩,_⟩,_⟩,_⟩,_⟩,_⟩,_⟩:=h;have c:(Dm [[5],[1],[5]]).first BC=(MF,(Dm [[5],[1],[5]]).iI,0):=by
  unfold So.first;rw[if_pos (.inl (by show [[5],[1],[5]]≠[];simp))];show ((hY BC (bU yg 0) 1 (eO (jL [[5],[1],[5]]))).1,(Dm [[5],[1],[5]]).iI,(hY BC (bU yg 0) 1 (eO (jL [[5],[1],[5]]))).2)=_;rw[LU,h1];rfl
 unfold So.done;rw[if_neg (by show ¬(0:Int)≠0;decide),c];show So.ends yO=_;unfold So.ends;rw[if_neg (by rw[a];decide),b]
section
variable {H:aa}
set_option maxHeartbeats 1000000 in
theorem Cj {K:Bool->aa->Prop}(g:Gl H)(hK:∀B,Ext H B->K true B):GG.sp H K:=by
 have ev:=MK;simp only[Ob,beq_iff_eq,decide_eq_true_eq,Bool.not_eq_true'] at ev;obtain⟨⟨⟨⟨⟨⟨⟨⟨⟨⟨⟨_,_⟩,_⟩,v4⟩,v5⟩,v6⟩,v7⟩,v8⟩,v9⟩,v10⟩,v11⟩,v12⟩:=ev;refine GG.of ?_;unfold GG.vc;have a7:=g.lt;refine Gc (by decide) λF1 d H1 a1 y f1=>?_;refine tk (m:=8) (g.mod y id) a1 (λq=>by have:=f1 _ q;omega) (by decide) (by decide) λP p e M x2 w2=>?_;have z1:=y.size;have h:dg H e P (λ_=>False):=⟨y.trans x2,λb a=>(w2 b a).elim (f1 b) λu=>by omega,λ_ q=>q.elim,λ_ _ q=>q⟩;have l2:=M.lt;refine xq M (λn1=>absurd (congrArg TY n1) (by rw[show (iN (qQ (q9 20) 8) (O6 #[102]) 1 3).1.isSome=true by decide+kernel];simp)) λ_ _ N e3 s3=>?_;refine aC rfl (aC rfl ?_);have z2:=h.ext.size;have sO:∀b,cd e.size bk [] bk b->b=e.size:=by
  rintro b (u|u|⟨x,O,_⟩|u)
  ·exact u
  ·exact absurd u (aS b)
  ·cases O
  ·exact absurd u (aS b)
 have S3:gW N d p e.size (λb=>P b\/cd e.size bk [] bk b) BC (Dm []):=⟨P,bk,[],bk,rfl,M.ext e3,s3,λb a u=>by have:=sO b u;have:=l2 b a;omega⟩;have T:dg H N (λb=>P b\/cd e.size bk [] bk b) (λ_=>False):=⟨h.ext.trans e3,λb a=>a.elim (h.n1 b) λu=>by have:=sO b u;omega,λ_ q=>q.elim,λ_ _ q=>q⟩;have b0:Bd BC 1 0:=⟨λf hf=>by simp[BC,qQ] at hf,by decide,by decide,by decide⟩;have I:∀l:List (List Int),l.length<=3->zg (Dm l) 1 3 3:=λl hl=>⟨rfl,rfl,rfl,by show 0*_+l.length<=3;omega,rfl,λn U=>(by cases U),rfl⟩
 -- a row
 have row:∀(l:List (List Int)) (x:Int) (A:aa) (X:Nat->Prop) (V:Int->aa->Prop),l.length<3->dg H A X (λ_=>False)->gW A d p e.size X BC (Dm l)->(∀X' B,dg H B X' (λ_=>False)->gW B d p e.size X' BC (Dm (l++[[x]]))->V 0 B)->aI A #[(.int .u64 x)] gR λq Y=>xA.sp (aE e.size) (Sl.mk (some q) 1 1) Y V:=λl x A X V hl ap S Z=>by
  refine uP (k:=.u64) [x] λq B _ _ J eB=>?_;have z:=ap.go eB;refine(S.mod eB λ_ _ u=>u).add (g.mod z.ext id) (λq=>by have:=ap.n1 _ q;omega) (I l (by omega)) (by decide) (by decide) (by decide) (by decide) (J 1) b0 (by decide) (by decide) λX' C q1 S1 _=>?_;rw[fR l x hl] at q1 ⊢;exact Z X' C (z.qw S1 λ_ u=>u.elim) q1
 refine row [] 5 N _ _ (by decide) T S3 λX4 Y af S4=>aC rfl ?_;refine row _ 1 Y _ _ (by decide) af S4 λX5 H5 an S5=>aC rfl ?_;refine row _ 5 H5 _ _ (by decide) an S5 λX6 H6 j S6=>aC rfl ?_;refine S6.done (g.mod j.ext id) (λq=>by have:=j.n1 _ q;omega) (I _ (by decide)) (by decide) (by decide) (by decide) (by decide) b0 (by decide) (by decide) λX7 H7 q7 S7 n7 l7=>?_;have ed:(Dm ([]++[[5]]++[[1]]++[[5]])).done BC=(yO.1,{yO.2.1 with closed:=true},2,0):=Ln;rw[ed] at q7 n7 l7 ⊢;obtain⟨F7,a8,bb,rfl,p7,_,_⟩:=q7;have o:=(j.qw S7 λ_ u=>u.elim).sub (Y1:=F7) (Y2:=λ_=>False) (λb a=>.inl a) λ_ u=>u;have g7:=g.mod o.ext id;refine sS g7 p7 (n:=yg) (by decide) (by omega) n7 v4 (λF8 H8 _ _ L=>absurd v5 (by rw[L];simp)) λF8 H8 k r p8 S8 L I k1 k2=>?_;have er:r=Im:=by
  unfold Im;rw[L];rfl
 subst er;obtain⟨ok,rb,_,_,_⟩:=mg L;refine aC (by rw[v6];rfl) (aC rfl ?_);have c:=o.qw S8 λ_ u=>u.elim;have g8:=g.mod c.ext id;have z7:=o.ext.size;have rO:∀b,qG k bk [] b->b=k:=by
  rintro b (u|u|⟨x,O,_⟩)
  ·exact u
  ·exact absurd u (aS b)
  ·cases O
 refine yA (H0:=H8) (F0:=F8) (O0:=qG k bk []) g8 (λq=>by have:=c.n1 _ q;omega) (by omega) ⟨p8,I,λb a u=>k2 (rO b u▸a),.refl _ _,λb a=>.inl a,λb a=>.inl a⟩ ok (by rw[rb];decide) (by show Is.d.aB<_;omega) (by show Is.next<_;omega) (by show 0<=Is.next;exact v10) λF9 si rs C l hR hO a6=>?_;have hv:(Im.next (rnOpen yO.1 yg 1).1).2.2=([1],true,0):=v7;rw[hv] at hO ⊢;have J:Ints .u64 C l [1]:=hO.ints;have U:l.n=1:=J.len;refine aP (by simp[U]) ?_;refine J.ld (i:=0) (by decide) (by decide) λad _=>?_;refine aP rfl ?_;have eC:Ext H C:=⟨Oo c.ext.size hR.mod.size,λb a _=>(hR.mod.same b (by have:=c.ext.size;omega) λu=>u.elim (λv=>by have:=c.n1 b v;omega) λv=>by omega).trans (c.ext.same b a id)⟩;obtain⟨D,hD,_,_⟩:=hR.pool.cu (g.mod eC id);refine AL hD λl2 B o2 e2 _=>?_;have E:=az.n o2 (by decide);have y:(Im.next (rnOpen yO.1 yg 1).1).1.d.list.length=1:=by
  have d1:(Im.next (rnOpen yO.1 yg 1).1).1.d.down=false:=v8;have d2:(Im.next (rnOpen yO.1 yg 1).1).1.d.files.length=1:=v9;unfold Dk.list;rw[d1,if_neg (by simp),(OX _ _).length_eq,OL];exact d2
 rw[y] at E;rw[E];exact hK B (eC.trans e2)
end
def wY (H0 A:aa)(d n p m a b w fr i:Nat):Prop:=∃X1 X2 s t,dg H0 A X1 X2/\gW A d p a X1 s t/\jG A n m b X2 s t/\zg t w fr i/\Bd s (1+400010*i) (805000*i)
def sx (H0 A:aa)(d n p m b c:Nat):Prop:=∃X1 X2 s t a,dg H0 A X1 X2/\kM A d p b X1 s t/\kI A n m c X2 s a/\t.ready≠0/\a.ready=t.ready/\s.next<1099511627776/\s.d.aB<34359738368
section
variable {H0 A:aa}{d n p m k1 k2 w fr i:Nat}{rows:Sl}{rl:List (List Int)}{R:Bool->aa->Prop}
set_option maxHeartbeats 1000000 in
theorem HP {K:aa->Prop}(h:wY H0 A d n p m k1 k2 w fr i\/sx H0 A d n p m k1 k2)(hg:Gl H0)(hw:w<=16)(h3:3<=fr)(hf:fr<=100)(hi:i<400)(hr:Rows H0 rows rl)(hlen:∀l∈rl,l.length<=17592186043904){j:Nat}(hj:j<rl.length)
  (hK:∀B,wY H0 B d n p m k1 k2 w fr (i+1)\/sx H0 B d n p m k1 k2->K B):
  ae rows.a λa=>(0<=(j:Int)/\(j:Int)<(rows.n:Int))/\Go.Proofs.YtmkbhnholcaghaaGreatDoor.ld ak A (a.add ((j:Int).toNat*1)) λ(a1:Sl)=>Hm.sp a1 A λ(l:Sl) H8=>xA.sp (aE k1) l H8 λ(bb:Int) H9=>ae rows.a λbl=>(0<=(j:Int)/\(j:Int)<(rows.n:Int))/\Go.Proofs.YtmkbhnholcaghaaGreatDoor.ld ak H9 (bl.add ((j:Int).toNat*1)) λ(a6:Sl)=>C7.sp (aE k2) a6 H9 λ(bn:Int) T=>br (bb !=bn) (R false T) (ae rows.a λU=>(0<=(j:Int)/\(j:Int)<(rows.n:Int))/\Go.Proofs.YtmkbhnholcaghaaGreatDoor.ld ak T (U.add ((j:Int).toNat*1)) λ(o:Sl)=>GF.sp l o T λ(V:Bool) x=>br (!V) (R false x) (Gz.sp l x λ(_:Unit) Y=>K Y)):=by
 obtain⟨r,Z,z⟩:=hr.go hj;have af:=hlen _ (OH hj);have bB:=hg.lt;have eA:Ext H0 A:=h.elim (λ⟨_,_,_,_,a,_⟩=>a.ext) λ⟨_,_,_,_,_,a,_⟩=>a.ext;refine z A _ eA ?_;refine Gi (Z.ext eA) af λl B hL N=>?_;have zB:=N.size;have O:=hL.block
 -- what is lent stays
 have fin:∀C,Ext H0 C->gV C A.size l (rl[j]'hj)->A.size<=C.size->(∀D,Mod (ag l) C D->K D)->ae rows.a λU=>(0<=(j:Int)/\(j:Int)<(rows.n:Int))/\Go.Proofs.YtmkbhnholcaghaaGreatDoor.ld ak C (U.add ((j:Int).toNat*1)) λ(o:Sl)=>GF.sp l o C λ(V:Bool) x=>br (!V) (R false x) (Gz.sp l x λ(_:Unit) Y=>K Y):=λC eC an zC hD=>by
  refine z C _ eC ?_;refine Ep an (Z.ext eC) af ?_;refine aC rfl ?_;exact Dh an.Mo (by rw[an.len];exact af) zC λD mD=>hD D mD
 rcases h with ⟨X1,X2,s,t,ap,s1,s2,h8,bd⟩|⟨X1,X2,s,t,t',ap,s1,s2,e1,e2,e3,e4⟩
 ·have bs:Gl B:=hg.mod (eA.trans N) id;have l1:=s1.lt;have l2:=s2.lt;have e:=ap.go N;have I:=s1.mod N λ_ _=>id;have y:=s2.mod N λ_ _=>id;refine I.add bs (λq=>by have:=ap.n1 _ q;omega) h8 hw h3 hf (by omega) hL.ints bd (by omega) (by omega) λY1 C q1 S1 bC=>?_;have J:=e.qw S1 y.lt;have zC:=S1.mod.size;refine z C _ J.ext ?_;have bx:=y.mod S1.mod λb c q=>e.dis b q c;refine bx.add h8 hw h3 hf (by omega) (Z.ext J.ext) bd (by omega) (by omega) λY2 D q2 S2=>?_;have g:=J.nh S2 q1.lt;have bA:=q1.mod S2.mod λb c q=>J.dis b c q;refine aC (by simp) ?_;have zD:=S2.mod.size;have P:∀b,ag l b->¬X1 b:=λb c q=>by have:=(O b c).1;have:=l1 b q;omega
  have S:∀b,ag l b->¬X2 b:=λb c q=>by have:=(O b c).1;have:=l2 b q;omega
  refine fin D g.ext ((hL.mod S1.mod P).mod S2.mod S) (by omega) λE L=>?_;have o1:∀b,Y1 b->¬ag l b:=λb c q=>by
   have:=O b q;rcases S1.own b c with u|u
   ·exact P b q u
   ·omega
  have o2:∀b,Y2 b->¬ag l b:=λb c q=>by
   have:=O b q;rcases S2.own b c with u|u
   ·exact S b q u
   ·omega
  have M:dg H0 E Y1 Y2:=by
   have z0:=eA.size;exact⟨⟨by have:=L.size;have:=g.ext.size;omega,λb c _=>(L.same b (by omega) λq=>by have:=(O b q).1;omega).trans (g.ext.same b c id)⟩,g.n1,g.n2,g.dis⟩
  have a7:=bA.mod L o1;have a8:=q2.mod L o2;refine hK E ?_;rcases h8.add hw h3 (by omega) s (rl[j]'hj) with u|u
  ·exact .inl ⟨Y1,Y2,_,_,M,a7,a8,u,bC.mono (by omega) (by omega)⟩
  ·obtain⟨Z1,v1,w1⟩:=a7.die;obtain⟨Z2,v2,w2⟩:=a8.die;have c1:=bC.hi;have c2:=bC.aB;exact .inr ⟨Z1,Z2,_,_,_,M.sub w1 w2,v1,v2,u,rfl,by omega,by omega⟩
 ·have l1:=s1.lt;have l2:=s2.lt;have e:=ap.go N;have I:=s1.mod N λ_ _=>id;have y:=s2.mod N λ_ _=>id;refine I.add e1 ?_;refine z B _ e.ext ?_;refine y.add (by rw[e2];exact e1) ?_;refine aC (by rw[e2];simp) ?_;refine fin B e.ext hL (by omega) λE L=>?_;have o1:∀b,X1 b->¬ag l b:=λb c q=>by have:=(O b q).1;have:=l1 b c;omega
  have o2:∀b,X2 b->¬ag l b:=λb c q=>by have:=(O b q).1;have:=l2 b c;omega
  have M:dg H0 E X1 X2:=by
   have z0:=eA.size;exact⟨⟨by have:=L.size;have:=e.ext.size;omega,λb c _=>(L.same b (by omega) λq=>by have:=(O b q).1;omega).trans (e.ext.same b c id)⟩,ap.n1,ap.n2,ap.dis⟩
  exact hK E (.inr ⟨X1,X2,s,t,t',M,I.mod L o1,y.mod L o2,e1,e2,e3,e4⟩)
theorem rN {K:Bool->aa->Prop}(h:wY H0 A d n p m k1 k2 w fr i\/sx H0 A d n p m k1 k2)(z:Gl H0)(hw:w<=16)(D:3<=fr)(E:fr<=100)(hi:i<=400)
  (I:∀B,sx H0 B d n p m k1 k2->K true B):GX.sp (aE k1) (aE k2) A K:=by
 refine GX.of ?_;unfold GX.vc;have P:=z.lt;rcases h with ⟨X1,X2,s,t,ap,s1,s2,J,L⟩|⟨X1,X2,s,t,g,ap,s1,s2,c,e2,S,T⟩
 ·refine s1.done (z.mod ap.ext id) (λq=>by have:=ap.n1 _ q;omega) J hw D E hi L (by omega) (by omega) λY1 B M N U V=>?_;have e:=ap.qw N s2.lt;have j:=s2.mod N.mod λb o q=>ap.dis b q o;refine j.done J hw D E hi L (by omega) (by omega) λY2 g C Y c e2 O=>?_;have x:=e.nh O M.lt;have y:=M.mod O.mod λb o q=>e.dis b o q;have:∀a b:Int,((a==a)&&(b==b))=true:=λa b=>by simp
  rw[this];exact I C ⟨Y1,Y2,_,_,g,x,y,Y,e2,c,U,V⟩
 ·refine s1.done c (s2.done (by rw[e2];exact c) ?_);have:(((0:Int)==(0:Int))&&(t.ready==g.ready))=true:=by rw[e2];simp
  rw[this];exact I A ⟨X1,X2,s,t,g,ap,s1,s2,c,e2,S,T⟩
theorem sx.alike {K:Bool->aa->Prop}(h:sx H0 A d n p m k1 k2)(c:Gl H0)(e:∀B,Ext H0 B->K true B):GA.sp (aE d) (aE n) (aE p) (aE m) A K:=by
 obtain⟨X1,X2,s,t,z,ap,⟨C,g,j,rfl,c1,_,_⟩,⟨D,o,q,rfl,c2,_,_⟩,_,_,x,y⟩:=h;exact uC (ap.sub (λb a=>.inl a) λb a=>.inl a) c1 c2 c x y e
set_option maxHeartbeats 2000000 in
theorem tt {H:aa}{quota pool frames width q keep at_:Int}(hg:Gl H)(hq:quota<=9223372036854775807)(hp:q<=9223372036854775807)(hr:Rows H rows rl)(hlen:∀l∈rl,l.length<=17592186043904)
  (hK:∀B,Ext H B->R true B):KE.sp quota pool frames width q keep rows at_ H R:=by
 refine KE.of ?_;unfold KE.vc;refine ax λH0 z0 r0 O=>?_;have Z:=hr.len;refine ah (λ_=>hK H0 O) λU=>?_;have hl:rl.length<=400:=by
  have:¬(rows.n:Int)>400:=of_decide_eq_false U;omega
 have g:=hg.mod O id;have af:Rows H0 rows rl:=⟨Z,λi hi=>by
  obtain⟨ad,r,e,an,a1⟩:=hr.at' i hi;exact⟨ad,r,e,Mod.cell O an id,a1.ext O⟩⟩
 refine aj.c6 (x:=(quota,pool,frames,width,q,keep)) r0 rfl rfl ?_;refine Dj g hq hp λB dp dm p m P1 P2 P j hj ap c1 c2 a6=>?_;have S:=r0.ext ap.ext;have h:∀B,Ext H0 B->GG.sp B λ(a7:Bool) H6=>R a7 H6:=λB e=>Cj (g.mod e id) λC e2=>hK C ((O.trans e).trans e2);refine S.ld (c:=ab .i64) (i:=3) (x:=width) rfl ?_;refine S.ld (c:=ab .i64) (i:=2) (x:=frames) rfl ?_;refine xq c1 (λn1=>?_) λn1 n2 C L sC=>?_
 ·refine S.ld (c:=ab .i64) (i:=3) (x:=width) rfl ?_;refine S.ld (c:=ab .i64) (i:=2) (x:=frames) rfl ?_;refine ue c2 (λ_=>?_) λn3=>absurd n3 (by rw[show (iN (qQ P (8+j)) (O6 #[102]) width frames).1=none from n1];simp);refine aC (by simp) (aC rfl ?_);have ne:(iN (qQ P (8+j)) (O6 #[102]) width frames).2≠0:=by
   unfold iN at n1 ⊢;split
   ·decide
   ·split
    ·decide
    ·rename_i u v;rw[if_neg u,if_neg v] at n1;cases n1
  refine aP (by simpa using ne) ?_;refine uC ap c1 c2 g (by show (1:Int)<_;decide) (by show P.aB<_;omega) λD M=>?_;exact aP rfl (h D M)
 have zC:=L.size;have rC:=S.ext L;refine rC.ld (c:=ab .i64) (i:=3) (x:=width) rfl ?_;refine rC.ld (c:=ab .i64) (i:=2) (x:=frames) rfl ?_;refine ue (c2.ext L) (λn3=>absurd n3 (by rw[n1];simp)) λ_ _ D M zD sD=>?_;refine aC (by simp) (aC rfl (aC rfl ?_))
 -- what holds of the sizes
 obtain⟨a8,bd,bl⟩:aH width≠0/\3<=frames/\frames<=((8+j:Nat):Int):=by
  unfold iN at n1;split at n1
  ·cases n1
  ·rename_i u;split at n1
   ·cases n1
   ·rename_i v;have v1:¬frames<3:=λa=>v (.inl a);have v2:¬frames>((8+j:Nat):Int):=λa=>v (.inr a);exact⟨u,by omega,by omega⟩
 obtain⟨w0,bn⟩:=zl a8;obtain⟨w,rfl⟩:∃w:Nat,width=(w:Int):=⟨width.toNat,by omega⟩;obtain⟨fr,rfl⟩:∃fr:Nat,frames=(fr:Int):=⟨frames.toNat,by omega⟩;have hw:w<=16:=by omega
 have V:3<=fr:=by omega
 have N:fr<=100:=by omega
 have zB:=ap.ext.size;have l1:=c1.lt;have l2:=c2.lt;have z:∀k b,cd k bk [] bk b->b=k:=by
  rintro k b (u|u|⟨x,hx,_⟩|u)
  ·exact u
  ·exact absurd u (aS b)
  ·cases hx
  ·exact absurd u (aS b)
 have live:wY H0 D dp dm p m B.size C.size w fr 0:=by
  have bb:=sC.mod M λ_ _=>id;refine⟨λb=>P1 b\/cd B.size bk [] bk b,λb=>P2 b\/cd C.size bk [] bk b,qQ P (8+j),Jo yg (w:Int) (fr:Int),⟨(ap.ext.trans L).trans M,λb y=>?_,λb y=>?_,λb y T=>?_⟩,⟨P1,bk,[],bk,rfl,(c1.ext L).ext M,bb,λb y u=>?_⟩,⟨P2,bk,[],bk,rfl,(c2.ext L).ext M,sD,λb y u=>?_⟩,⟨rfl,rfl,rfl,by simp[Jo],rfl,λn hn=>(by cases hn),rfl⟩,⟨λf N=>by simp[qQ] at N,by show (0:Int)<=1;decide,by show (1:Int)<=_;omega,by show P.aB<=_;rw[a6];omega⟩⟩
  ·rcases y with u|u
   ·exact ap.n1 b u
   ·have:=z _ b u;omega
  ·rcases y with u|u
   ·exact ap.n2 b u
   ·have:=z _ b u;omega
  ·rcases y with u|u
   ·rcases T with v|v
    ·exact ap.dis b u v
    ·have:=z _ b v;have:=l1 b u;omega
   ·have:=z _ b u;rcases T with v|v
    ·have:=l2 b v;omega
    ·have:=z _ b v;have:=aA sC.rd.row;omega
  ·have:=z _ b u;have:=l1 b y;omega
  ·have:=z _ b u;have:=l2 b y;omega
 refine ar rl.length (λk i A=>i=(k:Int)/\(wY H0 A dp dm p m B.size C.size w fr k\/sx H0 A dp dm p m B.size C.size)) ⟨rfl,.inl live⟩ ?_;rintro k _ A next hk ⟨rfl,hS⟩ o
 refine ah (λU=>?_) λU=>?_
 ·have J:k<rl.length:=by have:(k:Int)<(rows.n:Int):=of_decide_eq_true U;omega
  refine HP hS g hw V N (by omega) af hlen J λE Y=>?_;rw[aD k (by omega)];refine ah (λ_=>?_) λ_=>?_
  ·refine rN Y g hw V N (by omega) λG hG=>?_;exact aC rfl (o J _ _ ⟨rfl,.inr hG⟩)
  ·exact o J _ _ ⟨rfl,Y⟩
 ·refine rN hS g hw V N (by omega) λE Y=>aP rfl ?_;refine rN (i:=0) (w:=w) (fr:=fr) (.inr Y) g hw V N (by omega) λG hG=>aP rfl ?_;exact hG.alike g λI eI=>aP rfl (h I eI)
end
end Go.Proofs.YtmkbhnholcaghaaGreatDoor
