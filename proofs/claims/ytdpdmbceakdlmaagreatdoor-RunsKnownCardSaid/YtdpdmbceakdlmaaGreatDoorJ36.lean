/-
 Runs: the writer's end: the walk.
-/
import Derived.Test.YtdpdmbceakdlmaaGreatDoorVc
import Derived.Test.YtdpdmbceakdlmaaGreatDoorFxk
import Derived.Test.YtdpdmbceakdlmaaGreatDoorJ32
import Derived.Test.YtdpdmbceakdlmaaGreatDoorJ35
open Bool renaming and_eq_true->KR
open Go.Builtin renaming append_->KM
open Go.IntKind renaming i64->KG,u64->K0,u8->LA
open Go.Proofs.Tryz renaming prog->KE
open Go.Value renaming int->Lb
open Int renaming emod_nonneg->Oj,tmod_eq_emod->QY
open List renaming mem_map->KZ
open Nat renaming le_refl->KN,le_trans->Lc,div_le_self->Oi
open UInt8 renaming ofNat->Lf
namespace Go.Proofs.YtdpdmbceakdlmaaGreatDoor
open Go.MapKept
structure gJ (H0:Heap)(F0:Nat->Prop)(k p dp:Nat)(sw sl:Sl)(F:Nat->Prop)(A:Heap)(s:Pl)(w:RW):Prop where
 ag:aM F A p dp s
 wr:oQ A k p w sw sl
 dis:∀b,F b->¬fg k sw sl b
 mod:Mod (λb=>F0 b\/b=k) H0 A
 own:∀b,F b->F0 b\/H0.size<=b
section
variable {H0:Heap}{F0:Nat->Prop}{k p dp:Nat}{sw sl:Sl}{F:Nat->Prop}{A:Heap}{s:Pl}{w:RW}
theorem gJ.step {F':Nat->Prop}{A':Heap}{s':Pl}(h:gJ H0 F0 k p dp sw sl F A s w)(hp:aM F' A' p dp s')(S:Step F F' A A'):gJ H0 F0 k p dp sw sl F' A' s' w:=by
 refine⟨hp,h.wr.mod S.mod λb hb q=>h.dis b q hb,λb hb q=>?_,h.mod.trans' S.mod λb hb q=>?_,λb hb=>?_⟩
 ·rcases S.own b hb with r|r
  ·exact h.dis b r q
  ·have:=h.wr.lt b q;omega
 ·rcases h.own b q with r|r
  ·exact .inl r
  ·omega
 ·rcases S.own b hb with r|r
  ·exact h.own b r
  ·right;have:=h.mod.size;omega
theorem gJ.ext {A':Heap}(h:gJ H0 F0 k p dp sw sl F A s w)(e:Ext A A'):gJ H0 F0 k p dp sw sl F A' s w:=h.step (h.ag.ext e) ⟨e.mod,λ_ q=>.inl q⟩
theorem gJ.gl (h:gJ H0 F0 k p dp sw sl F A s w)(hg:Gl H0)(h1:¬F0 bx)(h2:bx≠k):Gl A:=hg.ak (h.mod.same _ hg.lt λq=>q.elim h1 h2)
theorem gJ.bf {A':Heap}{w':RW}{sw':Sl}(h:gJ H0 F0 k p dp sw sl F A s w)(m:Mod (λb=>b=k) A A')(hw:oQ A' k p w' sw' sl)(hs:∀b,al sw' b->al sw b):gJ H0 F0 k p dp sw' sl F A' s w':=by
 refine⟨h.ag.ak λb hb hl=>m.same b hl λq=>h.dis b hb (.inl q),hw,λb hb q=>h.dis b hb (q.imp_right λr=>r.imp_left (hs b)),h.mod.trans' m λb _ q=>.inr q,h.own⟩
theorem gJ.IS {A':Heap}{G:Nat->Prop}{n:Nat}(h:gJ H0 F0 k p dp sw sl F A s w)(m:Mod G A A')(hG:∀b,G b->n<=b)(hF:∀b,F b->b<n)(hw:∀b,fg k sw sl b->b<n)(h0:H0.size<=n):gJ H0 F0 k p dp sw sl F A' s w:=
 ⟨h.ag.ak λb hb hl=>m.same b hl λq=>by have:=hG b q;have:=hF b hb;omega,h.wr.mod m λb hb q=>by have:=hG b q;have:=hw b hb;omega,h.dis,h.mod.trans' m λb hb q=>by have:=hG b q;omega,h.own⟩
theorem BQ {n:Nat}(h:n<18446744073709551616):K0.wrap (n:Int)=(n:Int):=by
 have:((n:Int)%18446744073709551616)=n:=Int.emod_eq_of_lt (by omega) (by omega)
 exact this
theorem Dd {A:Heap}{t:Nat}{x:UInt8}(r:aj A t dF #[.int .u8 (x.toNat:Int)]):aK EB dF A (Sl.mk (some ⟨t,0,none⟩) 1 1) [x]:=
 ⟨rfl,.inr ⟨t,1,#[.int .u8 (x.toNat:Int)],rfl,Nat.zero_le _,r,KN _,by unfold maxLen;omega,rfl,rfl⟩⟩
theorem fx {A:Heap}{t:Nat}{x:Int}(r:aj A t eL #[.int .u64 x]):Ints .u64 A (Sl.mk (some ⟨t,0,none⟩) 1 1) [x]:=by
 refine⟨rfl,λi v hv=>⟨_,rfl,?_⟩⟩
 rw[aX]
 exact r.cell (by simpa using hv)
set_option maxHeartbeats 1000000 in
theorem sA {H:Heap}{K:(Int×Int)->Heap->Prop}(hg:Gl H)(hgs:¬fg k sw sl bx)(h:oQ H k p w sw sl)(hp:aM F H p dp s)(hd:∀b,F b->¬fg k sw sl b)
  (hwr:w.rows<1099511627776) (hwd:0<=w.b.width) (hn:w.b.name.size<=9223372036854775807) (hlogs:s.d.logs<68719460000) (hnx:s.next<1099511620000) (h0:0<=s.next) (hfit:s.Fit)
  (hb1:(w.out s).1.d.logs<68719465000) (hb2:(w.out s).1.next<1099511625000)
  (hb3:∀h hd,(Pl.leave (((w.out s).1.aR w.b.name 0).1.set h 2 hd) h).1.d.logs<68719470000)
  (hK:∀F' sw' H',aM F' H' p dp (w.close s).1->oQ H' k p (w.close s).2.1 sw' sl->(∀b,F' b->¬fg k sw' sl b)->Step (λb=>F b\/fg k sw sl b) (λb=>F' b\/fg k sw' sl b) H H'->K (((w.close s).2.2.1:Int),(w.close s).2.2.2) H'):wU.sp (aD k) H K:=by
 refine wU.of ?_
 unfold wU.vc
 unfold aD
 refine aw rfl ?_
 simp only[aq]
 unfold RW.close at hK
 refine lh h.row ?_
 by_cases e0:w.b.ready≠0
 ·rw[if_pos e0] at hK
  refine aw (by simpa using e0) ?_
  refine aP (by simpa using e0) ?_
  exact hK F sw H hp h hd (.refl _ _)
 rw[if_neg e0] at hK
 refine aP (by simpa using e0) ?_
 have B0:gJ H F k p dp sw sl F H s w:=⟨hp,h,hd,.refl _ _,λb q=>.inl q⟩
 refine yK hg h hp hd hn (by omega) (by omega) h0 hfit λF1 sw1 H1 p1 h1 hsub m1 own1=>?_
 have hb20:0<=(w.out s).1.next:=by have:=p1.wf.tick;omega
 have B1:gJ H F k p dp sw1 sl F1 H1 (w.out s).1 (w.out s).2.1:=by
  refine⟨p1,h1,?_,m1,own1⟩
  rintro b hb (q|q|q)
  ·rcases own1 b hb with r|r
   ·exact hd b r (.inl q)
   ·have:=h.lt b (.inl q);omega
  ·rcases own1 b hb with r|r
   ·exact hd b r (.inr (.inl (hsub b q)))
   ·have:=h.lt b (.inr (.inl (hsub b q)));omega
  ·rcases own1 b hb with r|r
   ·exact hd b r (.inr (.inr q))
   ·have:=h.lt b (.inr (.inr q));omega
 -- the end of all
 have fin:∀(F':Nat->Prop) (sw':Sl) (A:Heap) (s':Pl) (w':RW),(∀b,al sw' b->al sw b)->gJ H F k p dp sw' sl F' A s' w'->Step (λb=>F b\/fg k sw sl b) (λb=>F' b\/fg k sw' sl b) H A:=by
  intro F' sw' A s' w' hs B
  refine⟨B.mod.mono λb _ q=>q.imp_right .inl,λb hb=>?_⟩
  rcases hb with q|q|q|q
  ·rcases B.own b q with r|r
   ·exact .inl (.inl r)
   ·exact .inr r
  ·exact .inl (.inr (.inl q))
  ·exact .inl (.inr (.inr (.inl (hs b q))))
  ·exact .inl (.inr (.inr (.inr q)))
 refine ae (λhc=>?_) (λhc=>?_)
 ·have e1:(w.out s).2.2≠0:=by simpa using hc
  rw[if_pos e1] at hK
  exact hK F1 sw1 H1 p1 h1 B1.dis (fin F1 sw1 H1 _ _ hsub B1)
 have e1:¬(w.out s).2.2≠0:=by simpa using hc
 rw[if_neg e1] at hK
 have hwb:(w.out s).2.1.b=w.b/\(w.out s).2.1.rows=w.rows:=by
  unfold RW.out at e1 ⊢
  split
  ·exact⟨rfl,rfl⟩
  ·rename_i hq
   rw[if_neg hq] at e1
   refine⟨?_,rfl⟩
   show w.b.bO _=_
   unfold Rb.bO;rw[if_neg e1]
 obtain⟨hwb1,hwb2⟩:=hwb
 rw[<-hwb1] at hn hb3 hwd
 rw[<-hwb2] at hwr
 have hF0:¬F bx:=hp.gu
 have hk0:bx≠k:=λq=>hgs (.inl q)
 generalize hs1:(w.out s).1=s1 at*
 generalize hw1:(w.out s).2.1=w1 at*
 refine aj.ld (c:=ar) (i:=0) (x:=aD p) h1.row (bh.get 0 _ rfl) ?_
 refine aj.ld (c:=aV) (i:=1) (x:=w1.b.name) h1.row (bh.get 1 _ rfl) ?_
 refine yd (B1.gl hg hF0 hk0) p1 hn (by decide) (by decide) (by omega) (by omega) λF2 H2 p2 S2=>?_
 have B2:=B1.step p2 S2
 have hnx2:(s1.aR w1.b.name 0).1.next<=s1.next+1:=s1.jb hb20 (by omega)
 have hhead:w1.head s1=if (s1.aR w1.b.name 0).2.2≠0 then ((s1.aR w1.b.name 0).1,(s1.aR w1.b.name 0).2.2) else
   if (Pl.leave ((s1.aR w1.b.name 0).1.set (s1.aR w1.b.name 0).2.1 2 (bL w1.b.width w1.rows)) (s1.aR w1.b.name 0).2.1).2≠0 then Pl.leave ((s1.aR w1.b.name 0).1.set (s1.aR w1.b.name 0).2.1 2 (bL w1.b.width w1.rows)) (s1.aR w1.b.name 0).2.1
   else (Pl.leave ((s1.aR w1.b.name 0).1.set (s1.aR w1.b.name 0).2.1 2 (bL w1.b.width w1.rows)) (s1.aR w1.b.name 0).2.1).1.flush w1.b.name:=rfl
 have hsn:=(s1.aR w1.b.name 0).1.iu (s1.aR w1.b.name 0).2.1 2 (bL w1.b.width w1.rows)
 have hb3':=hb3 (s1.aR w1.b.name 0).2.1 (bL w1.b.width w1.rows)
 generalize (s1.aR w1.b.name 0).1=s2 at*
 generalize (s1.aR w1.b.name 0).2.1=hh at*
 generalize (s1.aR w1.b.name 0).2.2=e2 at*
 -- what stands behind each cut
 obtain⟨X0,hX0⟩:∃X0:Pl×Int,X0=if e2≠0 then (s2,e2) else s2.set hh 2 (bL w1.b.width w1.rows):=⟨_,rfl⟩
 obtain⟨X1,hX1⟩:∃X1:Pl×Int,X1=if e2≠0 then (s2,e2) else Pl.leave (s2.set hh 2 (bL w1.b.width w1.rows)) hh:=⟨_,rfl⟩
 have hX1':X1=Pl.leave X0 hh:=by
  rw[hX1,hX0]
  by_cases q:e2≠0
  ·rw[if_pos q,if_pos q];exact(if_neg q).symm
  ·rw[if_neg q,if_neg q]
 have hX2:w1.head s1=if X1.2≠0 then X1 else X1.1.flush w1.b.name:=by
  rw[hhead,hX1]
  by_cases q:e2≠0
  ·rw[if_pos q,if_pos q,if_pos q]
  ·rw[if_neg q,if_neg q]
 have hX0n:X0.1.next<=s1.next+1:=by
  rw[hX0]
  by_cases q:e2≠0
  ·rw[if_pos q];exact hnx2
  ·rw[if_neg q,hsn];exact hnx2
 have hX1l:X1.2=0->X1.1.d.logs<68719470000:=by
  rw[hX1]
  by_cases q:e2≠0
  ·rw[if_pos q];intro r;exact absurd r q
  ·rw[if_neg q];intro _;exact hb3'
 refine⟨λe A=>e=X0.2/\∃F',gJ H F k p dp sw1 sl F' A X0.1 w1,?_,?_⟩
 ·refine ae (λhc=>?_) (λhc=>?_)
  ·have q:¬e2≠0:=by simpa using hc
   rw[if_neg q] at hX0
   refine⟨λA=>bh A k DZ p w1.b [sw1.v,.int .i64 (w1.n:Int),sl.v,.int .i64 (w1.rows:Int)],B2.wr.row,?_⟩
   refine aj.eP (c:=ar) (i:=0) (x:=aD p) (cs:=λ_=>_) (λ_ q=>q) (λ_ _=>bh.get 0 _ rfl) ?_
   refine aj.eP (c:=aa .i64) (i:=2) (x:=w1.b.width) (cs:=λ_=>_) (λ_ q=>q) (λ_ _=>bh.get 2 _ rfl) ?_
   refine aj.eP (c:=aa .i64) (i:=9) (x:=(w1.rows:Int)) (cs:=λ_=>_) (λ_ q=>q) (λ_ _=>bh.tail (j:=3) rfl) ?_
   have hu8:LA.wrap w1.b.width=((Lf w1.b.width.toNat).toNat:Int):=by
    have:w1.b.width=(w1.b.width.toNat:Int):=by omega
    rw[this,nO];simp
   have hu64:K0.wrap (w1.rows:Int)=(w1.rows:Int):=BQ (by omega)
   rw[hu8,hu64]
   have putW:∀(A:Heap) (t:Nat) (K':Sl->Heap->Prop),aj A t eL #[.int .u64 (w1.rows:Int)]->(∀r A',cS EB A' r.a (cC (cg [(w1.rows:Int)]))->r.n=(cC (cg [(w1.rows:Int)])).length->Ext A A'->K' r A')->wV.sp (Sl.mk (some ⟨t,0,none⟩) 1 1) A K':=by
    intro A t K' r hk
    refine tg (fx r) (by simp) λr A' o x=>hk r A' ?_ ?_ x
    ·unfold cS;rw[im,ju (fY _)];exact o.reads
    ·have:=o.1;rw[ca];simpa using this.symm
   have tail:∀(A:Heap) (F':Nat->Prop) (t:Nat) (r:Sl),gJ H F k p dp sw1 sl F' A s2 w1->H2.size<=t->F'=F2->aj A t dF #[.int .u8 ((Lf w1.b.width.toNat).toNat:Int)]->cS EB A r.a (cC (cg [(w1.rows:Int)]))->r.n=(cC (cg [(w1.rows:Int)])).length->
     bt av KE (KM #[dM,dM] dM #[(.slice (some ⟨t,0,none⟩) 1 1),r.v]) A λ(z:Sl) A'=>bh A' k DZ p w1.b [sw1.v,.int .i64 (w1.n:Int),sl.v,.int .i64 (w1.rows:Int)]/\
      nW.sp (aD p) hh (2:Int) z A' λ(e:Int) A''=>bh A'' k DZ p w1.b [sw1.v,.int .i64 (w1.n:Int),sl.v,.int .i64 (w1.rows:Int)]/\(e=X0.2/\∃F',gJ H F k p dp sw1 sl F' A'' X0.1 w1):=by
    intro A F' t r B ht hF rt hr hrn
    subst hF
    have o:=Dd rt
    have hrl:(cC (cg [(w1.rows:Int)])).length=8:=by rw[ca];simp[cg,cL]
    refine aK.append iT (s:=Sl.mk (some ⟨t,0,none⟩) 1 1) (x:=r) o hr hrn (by rw[hrl];simp) (by rw[hrl];simp) λz A' oz gz _=>?_
    have B':gJ H F k p dp sw1 sl F' A' s2 w1:=B.IS gz.1 (n:=H2.size) (by rintro b ⟨ad,q1,q2⟩;cases q1;subst q2;exact ht) (λb hb=>p2.lt b hb) (λb hb=>B2.wr.lt b hb) B2.mod.size
    refine⟨B'.wr.row,?_⟩
    refine xE (kd:=2) (B'.gl hg hF0 hk0) B'.ag (bY oz) λF3 H3 p3 S3=>?_
    have B3:=B'.step p3 S3
    refine⟨B3.wr.row,?_⟩
    rw[hX0]
    exact⟨rfl,F3,B3⟩
   refine⟨?_,?_⟩
   ·refine ao λA1 z1 r1 x1=>⟨(B2.ext x1).wr.row,?_⟩
    refine ao λA2 z2 r2 x2=>⟨((B2.ext x1).ext x2).wr.row,?_⟩
    refine putW A2 _ _ r2 λr A3 hr hrn x3=>⟨(((B2.ext x1).ext x2).ext x3).wr.row,?_⟩
    exact tail A3 F2 _ r (((B2.ext x1).ext x2).ext x3) (KN _) rfl ((r1.ext x2).ext x3) hr hrn
   ·refine ao λA1 z1 r1 x1=>⟨(B2.ext x1).wr.row,?_,?_⟩
    ·refine ao λA2 z2 r2 x2=>⟨((B2.ext x1).ext x2).wr.row,?_⟩
     refine putW A2 _ _ (r1.ext x2) λr A3 hr hrn x3=>⟨(((B2.ext x1).ext x2).ext x3).wr.row,?_⟩
     exact tail A3 F2 _ r (((B2.ext x1).ext x2).ext x3) (by omega) rfl (r2.ext x3) hr hrn
    ·refine putW A1 _ _ r1 λr A2 hr hrn x2=>⟨((B2.ext x1).ext x2).wr.row,?_⟩
     refine ao λA3 z3 r3 x3=>⟨(((B2.ext x1).ext x2).ext x3).wr.row,?_⟩
     have:=x2.size
     exact tail A3 F2 _ r (((B2.ext x1).ext x2).ext x3) (by omega) rfl r3 (hr.ext x3) hrn
  ·have q:e2≠0:=by simpa using hc
   rw[if_pos q] at hX0
   rw[hX0]
   exact⟨rfl,F2,B2⟩
 rintro _ A3 ⟨rfl,F3,B3⟩
 refine⟨λe A=>e=X1.2/\∃F',gJ H F k p dp sw1 sl F' A X1.1 w1,?_,?_⟩
 ·refine ae (λhc=>?_) (λhc=>?_)
  ·have q:X0.2=0:=by simpa using hc
   refine aj.ld (c:=ar) (i:=0) (x:=aD p) B3.wr.row (bh.get 0 _ rfl) ?_
   refine j8 (B3.gl hg hF0 hk0) B3.ag (by omega) λF4 H4 p4 S4=>?_
   have e:X1=X0.1.aB hh:=by rw[hX1'];exact if_pos q
   rw[e]
   exact⟨rfl,F4,B3.step p4 S4⟩
  ·have q:¬X0.2=0:=by simpa using hc
   have e:X1=X0:=by rw[hX1'];exact if_neg q
   rw[e]
   exact⟨rfl,F3,B3⟩
 rintro _ A4 ⟨rfl,F4,B4⟩
 refine⟨λe A=>e=(w1.head s1).2/\∃F',gJ H F k p dp sw1 sl F' A (w1.head s1).1 w1,?_,?_⟩
 ·refine ae (λhc=>?_) (λhc=>?_)
  ·have q:X1.2=0:=by simpa using hc
   refine aj.ld (c:=ar) (i:=0) (x:=aD p) B4.wr.row (bh.get 0 _ rfl) ?_
   refine aj.ld (c:=aV) (i:=1) (x:=w1.b.name) B4.wr.row (bh.get 1 _ rfl) ?_
   refine BJ (B4.gl hg hF0 hk0) B4.ag (hX1l q) λF5 H5 p5 S5=>?_
   have e:w1.head s1=X1.1.flush w1.b.name:=by rw[hX2];exact if_neg (by simpa using q)
   rw[e]
   exact⟨rfl,F5,B4.step p5 S5⟩
  ·have q:¬X1.2=0:=by simpa using hc
   have e:w1.head s1=X1:=by rw[hX2];exact if_pos q
   rw[e]
   exact⟨rfl,F4,B4⟩
 rintro _ A5 ⟨rfl,F5,B5⟩
 unfold RW.ends at hK
 refine oK B5.wr.row λA6 r6 m6 z6=>?_
 refine ae (λhc=>?_) (λhc=>?_)
 ·have q:(w1.head s1).2≠0:=by simpa using hc
  rw[if_pos q] at hK
  have B6:gJ H F k p dp sw1 sl F5 A6 (w1.head s1).1 {w1 with b:=w1.b.bO (w1.head s1).2}:=B5.bf m6 ⟨r6,B5.wr.wait.mod m6 λb hb q=>B5.wr.tJ (q▸hb),B5.wr.last.mod m6 λb hb q=>B5.wr.xP (q▸hb)⟩ λ_ q=>q
  exact hK F5 sw1 A6 B6.ag B6.wr B6.dis (fin F5 sw1 A6 _ _ hsub B6)
 ·have q:¬(w1.head s1).2≠0:=by simpa using hc
  rw[if_neg q] at hK
  have eb:w1.b.bO (w1.head s1).2=w1.b:=if_neg q
  rw[eb] at r6
  refine aj.st r6 (i:=5) (by simp[bD]) rfl λA7 r7 m7 z7=>?_
  rw[tR] at r7
  have m57:=m6.trans m7
  have B7:gJ H F k p dp sw1 sl F5 A7 (w1.head s1).1 w1.stop:=B5.bf m57 ⟨r7,B5.wr.wait.mod m57 λb hb q=>B5.wr.tJ (q▸hb),B5.wr.last.mod m57 λb hb q=>B5.wr.xP (q▸hb)⟩ λ_ q=>q
  refine aj.ld (c:=aa .i64) (i:=9) (x:=(w1.rows:Int)) B7.wr.row (bh.tail (j:=3) rfl) ?_
  exact hK F5 sw1 A7 B7.ag B7.wr B7.dis (fin F5 sw1 A7 _ _ hsub B7)
end
end Go.Proofs.YtdpdmbceakdlmaaGreatDoor
namespace Go.Proofs.YtdpdmbceakdlmaaGreatDoor
def v0 (j:Nat)(l:List Int):Prop:=l=[(j:Int)+1]
theorem u6 {i n:Int}{H:Heap}{K:Int->Heap->Prop}(h2:n<=9223372036854775807)
  (hK:K (if n<1 then 0 else i.emod n) H):FP.sp i n H K:=by
 refine FP.of ?_
 unfold FP.vc
 refine ae (λh=>?_) (λh=>?_)
 ·have:n<1:=by simpa using h
  simpa[this] using hK
 ·have hn:1<=n:=by simpa using h
  refine⟨by omega,?_⟩
  rw[if_neg (by omega)] at hK
  refine ae (λh=>?_) (λh=>?_)
  ·have hneg:i.tmod n<0:=by simpa using h
   have e:i.emod n=i.tmod n+n:=by
    rw[QY] at hneg ⊢
    split at hneg
    ·have:=Oj i (show n≠0 by omega)
     omega
    ·rename_i h3
     rw[if_neg h3]
     have:(n.natAbs:Int)=n:=by omega
     have e2:i%n=i.emod n:=rfl
     omega
   have hb1:-n<i.tmod n:=by
    rw[QY]
    have:=Oj i (show n≠0 by omega)
    split<;>omega
   rw[wrap64 (by omega) (by omega),<-e]
   exact hK
  ·have hpos:0<=i.tmod n:=by simpa using h
   have e:i.emod n=i.tmod n:=by
    rw[QY] at hpos ⊢
    split
    ·simp;rfl
    ·rename_i h3
     rw[if_neg h3] at hpos
     have:=Int.emod_lt_of_pos i (show 0<n by omega)
     have:(n.natAbs:Int)=n:=by omega
     omega
   rw[<-e];exact hK
open Go.MapKept
def TP (H A:Heap)(p dp:Nat)(s:Pl):Prop:=Ext H A/\∃F,aM F A p dp s/\∀b,F b->H.size<=b
variable {H A:Heap}{p dp:Nat}{s:Pl}{n:ByteArray}
theorem TP.ext {B:Heap}(t:TP H A p dp s)(e:Ext A B):TP H B p dp s:=by
 obtain⟨h1,F,h2,h3⟩:=t
 exact⟨h1.trans e,F,h2.ext e,h3⟩
theorem TP.gl (t:TP H A p dp s)(hg:Gl H):Gl A:=hg.mod t.1 id
theorem TP.wf (t:TP H A p dp s):s.WF:=by
 obtain⟨h1,F,h2,h3⟩:=t;exact h2.wf
theorem TP.go (t:TP H A p dp s):∃F,aM F A p dp s/\∀(s':Pl) (F':Nat->Prop) (B:Heap),aM F' B p dp s'->Step F F' A B->TP H B p dp s':=by
 obtain⟨h1,F,h2,h3⟩:=t
 refine⟨F,h2,λs' F' B h4 S=>⟨⟨Lc h1.size S.mod.size,λb hb _=>(S.mod.same b (Nat.lt_of_lt_of_le hb h1.size) λq=>by have:=h3 b q;omega).trans (h1.same b hb id)⟩,F',h4,λb hb=>?_⟩⟩
 rcases S.own b hb with q|q
 ·exact h3 b q
 ·exact Lc h1.size q
theorem TP.ba (t:TP H A p dp s)(hg:Gl H):∃D,bj D A dp s.d/\∀(d:Dk) (D':Nat->Prop) (B:Heap),bj D' B dp d->Step D D' A B->TP H B p dp (s.aZ d):=by
 have hgA:=t.gl hg
 obtain⟨F,h1,h2⟩:=t.go
 obtain⟨D,q1,q2,q3⟩:=h1.ba hgA
 refine⟨D,q1,λd D' B h4 S=>?_⟩
 obtain⟨F',r1,r2⟩:=q3 D' B d h4 S
 exact h2 _ F' B r1 r2
theorem TP.aR {K:(Int×Int)->Heap->Prop}{k:Int}{r:Int×Int}(t:TP H A p dp s)(hg:Gl H)(hn:n.size<=9223372036854775807)(h0:-9223372036854775808<=k)(h1:k<=9223372036854775807)(hl:s.d.logs<68719470000)(hx:s.next<9223372036854775807)(hr:(s.aR n k).2=r)
  (hK:∀B,TP H B p dp (s.aR n k).1->K r B):zY.sp (aD p) n k A K:=by
 have hgA:=t.gl hg
 obtain⟨F,h2,h3⟩:=t.go
 refine yd hgA h2 hn h0 h1 (by omega) hx λF' B h4 S=>?_
 subst hr
 exact hK B (h3 _ F' B h4 S)
theorem TP.put {K:Int->Heap->Prop}{k e:Int}{kd:UInt8}{b:Sl}{l:List UInt8}(t:TP H A p dp s)(hg:Gl H)(hb:bG A b l)(hr:(s.set k kd l).2=e)
  (hK:∀B,TP H B p dp (s.set k kd l).1->K e B):nW.sp (aD p) k (kd.toNat:Int) b A K:=by
 have hgA:=t.gl hg
 obtain⟨F,h2,h3⟩:=t.go
 refine xE hgA h2 hb λF' B h4 S=>?_
 rw[hr]
 exact hK B (h3 _ F' B h4 S)
theorem TP.aB {K:Int->Heap->Prop}{k e:Int}(t:TP H A p dp s)(hg:Gl H)(hx:s.next<9223372036854775807)(hr:(s.aB k).2=e)
  (hK:∀B,TP H B p dp (s.aB k).1->K e B):rk.sp (aD p) k A K:=by
 have hgA:=t.gl hg
 obtain⟨F,h2,h3⟩:=t.go
 refine j8 hgA h2 hx λF' B h4 S=>?_
 rw[hr]
 exact hK B (h3 _ F' B h4 S)
theorem TP.new {D:Nat->Prop}{d:Dk}{m:Nat}{K:(Option Addr×Int)->Heap->Prop}(hg:Gl H)(e:Ext H A)(hd:bj D A dp d)(hD:∀b,D b->H.size<=b)(h8:8<=m)(hm:m<=4096)
  (hK:∀p B,TP H B p dp (pl0 d m)->K (aD p,0) B):CT.sp (aD dp) (m:Int) A K:=by
 refine qL (hg.mod e id) hd (λq=>by have:=hD _ q;have:=hg.lt;omega) h8 hm λF p B h1 e1 f1=>?_
 refine hK p B ⟨e.trans e1,F,h1,λb hb=>?_⟩
 rcases f1 b hb with q|q
 ·exact hD b q
 ·exact Lc e.size q
def nmF:ByteArray:=ByteArray.mk #[102]
theorem sY:named nmF=true:=by decide
theorem py {q:Int}(h0:0<=q)(hq:q<=1048576){n:ByteArray}(hn:named n=true):Live ((gm q).create n).1 n [] q.toNat/\((gm q).create n).1.ops=1/\((gm q).create n).2=0/\((gm q).create n).1.logs=0:=by
 have e:(gm q).create n=({gm q with files:=[⟨n,[],[]⟩],ops:=da (0+1)},0):=by
  unfold Dk.create
  rw[if_neg (by simp[gm]),if_neg (by rw[hn];simp),if_neg (by simp[gm,Dk.idx]),if_neg (by simp[gm])]
  rfl
 rw[e]
 refine⟨⟨rfl,rfl,⟨_,rfl,rfl,rfl⟩,?_⟩,by show da (0+1)=1;decide,rfl,rfl⟩
 show (min (max q 0) 1048576).toNat=q.toNat
 congr 1;omega
theorem Dz {d:Dk}{n:ByteArray}{q m:Nat}{T:Nat->UInt8×List UInt8}(h:Live d n [] q):Told (pl0 d m) n 0 q T []:=
 ⟨rfl,h,rfl,by intro f hf;simp[pl0] at hf,by intro k b hk;simp at hk⟩
end Go.Proofs.YtdpdmbceakdlmaaGreatDoor
namespace Go.Proofs.YtdpdmbceakdlmaaGreatDoor
open Go.MapKept
theorem kX:(zc KE pS).size=6:=by kernel_rfl
theorem hY:nV KE pS 6=true:=by kernel_rfl
def uT (pp:Option Addr)(n:ByteArray)(w:Int):Array Value:=#[.pointer pp,.string n,.int .i64 w,.int .i64 (aW w),.int .i64 0,.bool false]
theorem js (pp:Option Addr)(n:ByteArray)(w:Int):∀v∈(uT pp n w).toList,v.oneCell'=true:=by
 intro v hv
 simp[uT] at hv
 rcases hv with rfl|rfl|rfl|rfl|rfl|rfl<;>rfl
theorem lH {pp:Option Addr}{n:ByteArray}{w:Int}{H:Heap}{K:((Option Addr×ByteArray×Int×Int×Int×Bool)×Int)->Heap->Prop}
  {e:Int} (he:(if pp.isNone=true then 1 else if aW w=0 then 60 else 0)=e) (hK:∀H',Ext H H'->K ((pp,n,w,aW w,0,false),e) H'):Gb.sp pp n w H K:=by
 subst he
 refine Gb.of ?_
 unfold Gb.vc
 refine ao λH1 z1 r1 e1=>?_
 refine yn ?_
 refine ao λH2 z2 r2 e2=>?_
 refine aj.iH (cs:=uT pp n w) r2 hY kX (js _ _ _) λH3 r3 m3 z3=>?_
 have e3:Ext H H3:=⟨by have:=m3.size;omega,λb hb _=>(m3.same b (by omega) (by intro q;have:b=H1.size:=q;omega)).trans ((e2.same b (by omega) id).trans (e1.same b hb id))⟩
 have r13:aj H3 H.size pS (zc KE pS):=(r1.ext e2).mod m3 (by intro q;have:H.size=H1.size:=q;omega)
 have fin:∀e:Int,(∀H',Ext H H'->K ((pp,n,w,aW w,0,false),e) H')->dI (dr [ar,aV,(aa .i64),(aa .i64),(aa .i64),aA]) 6 H3 ⟨H1.size,0,none⟩ λ(x:(Option Addr×ByteArray×Int×Int×Int×Bool))=>lQ KE (Instr.storeAt pS (.pointer (some ⟨H.size,0,none⟩)) (.agg #[(.pointer x.1),(.string x.2.1),(.int .i64 x.2.2.1),(.int .i64 x.2.2.2.1),(.int .i64 x.2.2.2.2.1),(.bool x.2.2.2.2.2)])) H3 λH6=>dI (dr [ar,aV,(aa .i64),(aa .i64),(aa .i64),aA]) 6 H6 ⟨H.size,0,none⟩ λ(res:(Option Addr×ByteArray×Int×Int×Int×Bool))=>K ((res.1,res.2.1,res.2.2.1,res.2.2.2.1,res.2.2.2.2.1,res.2.2.2.2.2),e) H6:=by
  intro e hk
  refine aj.dI (x:=(pp,n,w,aW w,0,false)) r3 rfl rfl ?_
  refine aj.iH (cs:=uT pp n w) r13 hY kX (js _ _ _) λH4 r4 m4 z4=>?_
  refine aj.dI (x:=(pp,n,w,aW w,0,false)) r4 rfl rfl ?_
  exact hk H4 ⟨by have:=m4.size;have:=e3.size;omega,λb hb _=>(m4.same b (by have:=e3.size;omega) (by intro q;have:b=H.size:=q;omega)).trans (e3.same b hb id)⟩
 refine⟨λ_ A=>A=H3/\pp.isNone=false/\¬aW w=0,?_,?_⟩
 ·refine ae (λhc=>?_) (λhc=>?_)
  ·rw[if_pos hc] at hK
   exact fin 1 hK
  ·rw[if_neg (by rw[hc];simp)] at hK
   refine aj.ld (c:=aa .i64) (i:=3) (x:=aW w) r3 rfl ?_
   refine ae (λhc2=>?_) (λhc2=>?_)
   ·rw[if_pos (by simpa using hc2)] at hK
    exact fin 60 hK
   ·exact⟨rfl,hc,by simpa using hc2⟩
 ·rintro _ A ⟨rfl,h1,h2⟩
  rw[if_neg (by rw[h1];simp),if_neg h2] at hK
  exact fin 0 hK
def ig:Sl:=Sl.mk none 0 0
theorem cV (b:Nat):¬al ig b:=by rintro⟨ad,q,_⟩;cases q
theorem yD {n:ByteArray}{w:Int}{H:Heap}{K:(Option Addr×Int)->Heap->Prop}(hK:∀H',Ext H H'->K (none,1) H'):xg.sp none n w H K:=by
 refine xg.of ?_
 unfold xg.vc
 refine lH (e:=1) rfl λH1 e1=>?_
 refine ao λH2 z2 r2 e2=>?_
 refine aj.iH (cs:=uT none n w) r2 hY kX (js _ _ _) λH3 r3 m3 z3=>?_
 have e3:Ext H H3:=⟨by have:=m3.size;have:=e1.size;omega,λb hb _=>(m3.same b (by have:=e1.size;omega) (by intro q;have:b=H1.size:=q;have:=e1.size;omega)).trans ((e2.same b (by have:=e1.size;omega) id).trans (e1.same b hb id))⟩
 refine aw rfl ?_
 refine⟨λe A=>e=1/\A=H3,aw rfl ⟨rfl,rfl⟩,?_⟩
 rintro _ A ⟨rfl,rfl⟩
 exact aP rfl (hK A e3)
variable {F:Nat->Prop}{H:Heap}{p dp:Nat}{s:Pl}{n:ByteArray}{W:Int}{K:(Option Addr×Int)->Heap->Prop}
theorem vB (hg:Gl H)(hp:aM F H p dp s)(hn:n.size<=9223372036854775807)(hlogs:s.d.logs<68719470000)(hnx:s.next<1099511627776)(h0:0<=s.next)(hfit:s.Fit)
  (hK0:∀F' H',aM F' H' p dp (aJ s n W).1->Step F F' H H'->(aJ s n W).2.1=none->K (none,(aJ s n W).2.2) H')
  (hK1:∀F' H' k w,aM F' H' p dp (aJ s n W).1->Step F F' H H'->(aJ s n W).2.1=some w->oQ H' k p w ig ig->H.size<=k->¬F' k->K (aD k,(aJ s n W).2.2) H'):xg.sp (aD p) n W H K:=by
 refine xg.of ?_
 unfold xg.vc
 refine lH (e:=if aW W=0 then 60 else 0) (if_neg (by unfold aD;simp)) λH1 e1=>?_
 refine ao λH2 z2 r2 e2=>?_
 refine aj.iH (cs:=uT (aD p) n W) r2 hY kX (js _ _ _) λH3 r3 m3 z3=>?_
 have e3:Ext H H3:=⟨by have:=m3.size;have:=e1.size;omega,λb hb _=>(m3.same b (by have:=e1.size;omega) (by intro q;have:b=H1.size:=q;have:=e1.size;omega)).trans ((e2.same b (by have:=e1.size;omega) id).trans (e1.same b hb id))⟩
 have p3:=hp.ext e3
 have g3:Gl H3:=hg.mod e3 id
 have S3:Step F F H H3:=⟨e3.mod,λb q=>.inl q⟩
 have z13:=e1.size
 have hk:¬F H1.size:=λq=>by have:=hp.lt _ q;omega
 by_cases hr:aW W=0
 ·simp only[if_pos hr]
  have em:aJ s n W=(s,none,60):=if_pos hr
  rw[em] at hK0
  refine aw rfl ?_
  refine⟨λe A=>e=60/\A=H3,aw rfl ⟨rfl,rfl⟩,?_⟩
  rintro _ A ⟨rfl,rfl⟩
  exact aP rfl (hK0 F A p3 S3 rfl)
 simp only[if_neg hr]
 refine aP rfl ?_
 refine u7 p3 ?_
 obtain⟨D,d1,_,d3⟩:=aM.ba g3 p3
 refine Bh d1 λD' H4 d4 S4=>?_
 obtain⟨F4,p4,T4⟩:=d3 D' H4 _ d4 S4
 have em:aJ s n W=if (s.d.create n).2≠0 then (s.aZ (s.d.create n).1,none,(s.d.create n).2)
   else if ((s.aZ (s.d.create n).1).more n 0 []).2≠0 then (((s.aZ (s.d.create n).1).more n 0 []).1,none,((s.aZ (s.d.create n).1).more n 0 []).2)
   else (((s.aZ (s.d.create n).1).more n 0 []).1,some (rA n W),0):=by unfold aJ;rw[if_neg hr]
 have hl4:(s.aZ (s.d.create n).1).d.logs<68719470000:=by have:=s.d.iI n;show (s.d.create n).1.logs<_;omega
 have hf4:(s.aZ (s.d.create n).1).Fit:=hfit.aZ (s.d.jQ n)
 have hn4:(s.aZ (s.d.create n).1).next=s.next:=rfl
 generalize s.aZ (s.d.create n).1=s4 at*
 generalize (s.d.create n).2=e4 at*
 have hk4:¬F4 H1.size:=λq=>by
  rcases T4.own _ q with r|r
  ·exact hk r
  ·omega
 have b4:bh H4 H1.size pS p ⟨n,W,0,false⟩ []:=(show bh H3 H1.size pS p ⟨n,W,0,false⟩ [] from r3).mod T4.mod hk
 have T4':=S3.trans T4
 have g4:Gl H4:=g3.mod T4.mod p3.gu
 obtain⟨X,hX⟩:∃X:Pl×Int,X=if e4≠0 then (s4,e4) else s4.more n 0 []:=⟨_,rfl⟩
 have em':aJ s n W=if X.2≠0 then (X.1,none,X.2) else (X.1,some (rA n W),0):=by
  rw[em,hX]
  by_cases q:e4≠0
  ·rw[if_pos q,if_pos q,if_pos q]
  ·rw[if_neg q,if_neg q]
 refine⟨λe A=>e=X.2/\∃F',aM F' A p dp X.1/\Step F F' H A/\bh A H1.size pS p ⟨n,W,0,false⟩ [],?_,?_⟩
 ·refine ae (λhc=>?_) (λhc=>?_)
  ·have q:¬e4≠0:=by simpa using hc
   rw[if_neg q] at hX
   refine yX (kd:=0) (sl:=Sl.mk none 0 0) (l:=[]) g4 b4 p4 hk4 ⟨rfl,Reads.nil _ _⟩ (by intro ad q;cases q) hn hl4 (by omega) (by omega) hf4 λF5 H5 p5 S5=>?_
   rw[hX]
   exact⟨rfl,F5,p5,T4'.trans S5,b4.mod S5.mod hk4⟩
  ·have q:e4≠0:=by simpa using hc
   rw[if_pos q] at hX
   rw[hX]
   exact⟨rfl,F4,p4,T4',b4⟩
 rintro _ A ⟨rfl,F5,p5,S5,b5⟩
 rw[em'] at hK0 hK1
 refine ae (λhc=>?_) (λhc=>?_)
 ·have q:X.2≠0:=by simpa using hc
  rw[if_pos q] at hK0
  exact hK0 F5 A p5 S5 rfl
 ·have q:¬X.2≠0:=by simpa using hc
  rw[if_neg q] at hK1
  refine aj.dI (x:=(aD p,n,W,aW W,0,false)) b5 rfl rfl ?_
  refine ao λH6 z6 r6 e6=>?_
  have:=S5.mod.size
  refine hK1 F5 H6 A.size (rA n W) (p5.ext e6) ⟨S5.mod.trans' e6 λb _ q=>q.elim,S5.own⟩ rfl ⟨r6,aK.nil _ _ _,aT.nil _ _ _ _⟩ (by omega) λq=>by have:=p5.lt _ q;omega
end Go.Proofs.YtdpdmbceakdlmaaGreatDoor
namespace Go.Proofs.YtdpdmbceakdlmaaGreatDoor
open Go.MapKept
def fT:Option Nat->Int
 |none=>-1
 |some k=>(k:Int)
structure yG (H:Heap)(k p:Nat)(r:RR)(si:Sl)(rs:List Sl):Prop where
 row:bh H k Iz p r.b [.int .i64 (r.rows:Int),.int .i64 (r.at_:Int),.int .i64 (fT r.page),si.v]
 ins:aY H 0 si rs r.ins
def iV (k:Nat)(si:Sl)(rs:List Sl)(b:Nat):Prop:=b=k\/al si b\/∃x∈rs,al x b
section
variable {H:Heap}{k p:Nat}{r:RR}{si:Sl}{rs:List Sl}
theorem yG.lt (h:yG H k p r si rs):∀b,iV k si rs b->b<H.size:=by
 rintro b (rfl|q|⟨x,hx,q⟩)
 ·exact aG h.row
 ·exact(h.ins.block.1 b q).2
 ·exact(h.ins.block.2 x hx b q).2
theorem yG.mod {G:Nat->Prop}{H':Heap}(h:yG H k p r si rs)(m:Mod G H H')(hn:∀b,iV k si rs b->¬G b):yG H' k p r si rs:=
 ⟨h.row.mod m (hn k (.inl rfl)),h.ins.mod m (λb hb=>hn b (.inr (.inl hb))) λx hx b hb=>hn b (.inr (.inr ⟨x,hx,hb⟩))⟩
theorem yG.pN (h:yG H k p r si rs):¬al si k:=λq=>by
 obtain⟨cur,hc⟩:=h.ins.out.obj k q
 exact absurd (aQ hc h.row) (by decide)
theorem yG.nF (h:yG H k p r si rs):∀x∈rs,¬al x k:=λx hx q=>by
 obtain⟨l,hl⟩:=h.ins.rowAt hx
 obtain⟨cur,hc⟩:=hl.obj k q
 exact absurd (aQ hc h.row) (by decide)
end
structure c0 (H0:Heap)(F0 O0:Nat->Prop)(k p dp:Nat)(si:Sl)(rs:List Sl)(F:Nat->Prop)(A:Heap)(s:Pl)(r:RR):Prop where
 ag:aM F A p dp s
 rd:yG A k p r si rs
 dis:∀b,F b->¬iV k si rs b
 mod:Mod (λb=>F0 b\/b=k) H0 A
 own:∀b,F b->F0 b\/H0.size<=b
 own2:∀b,iV k si rs b->O0 b\/H0.size<=b
section
variable {H0:Heap}{F0 O0:Nat->Prop}{k p dp:Nat}{si:Sl}{rs:List Sl}{F:Nat->Prop}{A:Heap}{s:Pl}{r:RR}
theorem c0.step {F':Nat->Prop}{A':Heap}{s':Pl}(h:c0 H0 F0 O0 k p dp si rs F A s r)(hp:aM F' A' p dp s')(S:Step F F' A A'):c0 H0 F0 O0 k p dp si rs F' A' s' r:=by
 refine⟨hp,h.rd.mod S.mod λb hb q=>h.dis b q hb,λb hb q=>?_,h.mod.trans' S.mod λb hb q=>?_,λb hb=>?_,h.own2⟩
 ·rcases S.own b hb with r|r
  ·exact h.dis b r q
  ·have:=h.rd.lt b q;omega
 ·rcases h.own b q with r|r
  ·exact .inl r
  ·omega
 ·rcases S.own b hb with r|r
  ·exact h.own b r
  ·right;have:=h.mod.size;omega
theorem c0.ext {A':Heap}(h:c0 H0 F0 O0 k p dp si rs F A s r)(e:Ext A A'):c0 H0 F0 O0 k p dp si rs F A' s r:=h.step (h.ag.ext e) ⟨e.mod,λ_ q=>.inl q⟩
theorem c0.gl (h:c0 H0 F0 O0 k p dp si rs F A s r)(hg:Gl H0)(h1:¬F0 bx)(h2:bx≠k):Gl A:=hg.ak (h.mod.same _ hg.lt λq=>q.elim h1 h2)
theorem c0.bf {A':Heap}{r':RR}{si':Sl}{rs':List Sl}(h:c0 H0 F0 O0 k p dp si rs F A s r)(m:Mod (λb=>b=k) A A')(hr:yG A' k p r' si' rs')(hs:∀b,iV k si' rs' b->iV k si rs b\/(H0.size<=b/\¬F b)):c0 H0 F0 O0 k p dp si' rs' F A' s r':=by
 refine⟨h.ag.ak λb hb hl=>m.same b hl λq=>h.dis b hb (.inl q),hr,λb hb q=>?_,h.mod.trans' m λb _ q=>.inr q,h.own,λb q=>?_⟩
 ·rcases hs b q with u|u
  ·exact h.dis b hb u
  ·exact u.2 hb
 ·rcases hs b q with u|u
  ·exact h.own2 b u
  ·exact .inr u.1
theorem c0.bO {e:Int}{K:Int->Heap->Prop}(h:c0 H0 F0 O0 k p dp si rs F A s r)(hK:∀A',c0 H0 F0 O0 k p dp si rs F A' s {r with b:=r.b.bO e}->A.size<=A'.size->K e A'):yW.sp (aD k) e A K:=by
 refine oK h.rd.row λA' r' m' z'=>hK A' (h.bf m' ⟨r',h.rd.ins.mod m' (λb hb q=>h.rd.pN (q▸hb)) λx hx b hb q=>h.rd.nF x hx (q▸hb)⟩ λb q=>.inl q) (Nat.le_of_eq z'.symm)
theorem sM {b:List Int}{w:Int}:∀l∈gR b w,l.length<=16:=by
 unfold gR
 split
 ·rename_i h
  unfold dC at h
  simp only[KR,decide_eq_true_eq] at h
  have hw:w<=16:=by
   have h1:=h.1.1
   unfold bk at h1
   split at h1
   ·exact absurd rfl h1
   ·omega
  intro l hl
  obtain⟨k,_,rfl⟩:=KZ.1 hl
  rw[fm];omega
 ·simp
structure RR.Ok (r:RR):Prop where
 room:0<r.b.room
 at_:r.at_<=r.rows
 page:∀j,r.page=some j->r.ins.length=min r.b.room (r.rows - j*r.b.room)
 rows:r.rows<=528482304
 cols:∀l∈r.ins,l.length<=16
theorem cN (b:Rb):aW b.width=(b.room:Int)/\b.room<=504:=by
 unfold Rb.room
 have h:=eX b.width
 have h0:0<=aW b.width/\aW b.width<=504:=by
  unfold aW
  split
  ·omega
  ·refine⟨Int.tdiv_nonneg (by omega) (by omega),Int.tdiv_le_self _ (by omega)⟩
 omega
theorem Rb.jO (b:Rb)(e:Int):(b.bO e).room=b.room/\(b.bO e).width=b.width/\(b.bO e).name=b.name:=by
 unfold Rb.bO;split<;>exact⟨rfl,rfl,rfl⟩
theorem RR.dY {j:Nat}(h:r.Ok):(r.load s j).2.1.Ok/\(r.load s j).2.1.rows=r.rows/\(r.load s j).2.1.at_=r.at_/\(r.load s j).2.1.b.width=r.b.width/\(r.load s j).2.1.b.name=r.b.name/\((r.load s j).2.2=0->(r.load s j).2.1.b=r.b/\(r.load s j).2.1.page=some j):=by
 unfold RR.load
 split
 ·rename_i hp
  exact⟨h,rfl,rfl,rfl,rfl,λ_=>⟨rfl,hp⟩⟩
 ·split
  ·rename_i _ he
   obtain⟨b1,b2,b3⟩:=r.b.jO (s.look r.b.name ((j:Int)+1)).2.2.2
   exact⟨⟨by simp only[b1];exact h.room,h.at_,by simp only[b1];exact h.page,h.rows,h.cols⟩,rfl,rfl,b2,b3,λq=>absurd q he⟩
  ·split
   ·rename_i hf
    refine⟨⟨h.room,h.at_,λi hi=>?_,h.rows,sM⟩,rfl,rfl,rfl,rfl,λ_=>⟨rfl,rfl⟩⟩
    simp only at hi
    cases hi
    unfold RR.fits at hf
    simp only[KR,decide_eq_true_eq] at hf
    exact hf.2
   ·obtain⟨b1,b2,b3⟩:=r.b.jO 280
    exact⟨⟨by simp only[b1];exact h.room,h.at_,by simp only[b1];exact h.page,h.rows,h.cols⟩,rfl,rfl,b2,b3,λq=>by simp at q⟩
set_option maxHeartbeats 1000000 in
theorem qm {j:Nat}{K:Int->Heap->Prop}(hg:Gl H0)(hF0:¬F0 bx)(hk0:bx≠k)(h:c0 H0 F0 O0 k p dp si rs F A s r)(ok:r.Ok)(hj:j*r.b.room<=r.rows)(hj2:j<1099511627776)
  (hn:r.b.name.size<=9223372036854775807) (hlogs:s.d.logs<68719470000) (hnx:s.next<1099511627776) (h0:0<=s.next)
  (hK:∀F' si' rs' A',c0 H0 F0 O0 k p dp si' rs' F' A' (r.load s j).1 (r.load s j).2.1->A.size<=A'.size->K (r.load s j).2.2 A'):D7.sp (aD k) (j:Int) A K:=by
 refine D7.of ?_
 unfold D7.vc
 unfold aD
 simp only[aq]
 obtain⟨rm1,rm2⟩:=cN r.b
 unfold RR.load at hK
 refine aj.ld (c:=aa .i64) (i:=8) (x:=fT r.page) h.rd.row (bh.tail (j:=2) rfl) ?_
 by_cases hp:r.page=some j
 ·rw[if_pos hp] at hK
  refine aP (by rw[hp];simp[fT]) ?_
  exact hK F si rs A h (KN _)
 rw[if_neg hp] at hK
 refine aw ?_ ?_
 ·cases e:r.page with
  |none=>simp only[fT,beq_eq_false_iff_ne,ne_eq];omega
  |some i=>
    have:i≠j:=λq=>hp (by rw[e,q])
    simp only[fT,beq_eq_false_iff_ne,ne_eq];omega
 rw[aI j (by omega)]
 refine vX (h.gl hg hF0 hk0) h.rd.row h.ag (λq=>h.dis k q (.inl rfl)) (by omega) hn hlogs hnx h0 λF1 A1 sl p1 S1 o1 f1 hb1=>?_
 have e1:((j+1:Nat):Int)=(j:Int)+1:=by omega
 rw[e1] at p1 o1 hb1 ⊢
 have B1:=h.step p1 S1
 generalize (s.look r.b.name ((j:Int)+1)).1=s1 at*
 generalize (s.look r.b.name ((j:Int)+1)).2.1=kd at*
 generalize (s.look r.b.name ((j:Int)+1)).2.2.1=b at*
 generalize (s.look r.b.name ((j:Int)+1)).2.2.2=e at*
 refine ae (λhc=>?_) (λhc=>?_)
 ·have e0:e≠0:=by simpa using hc
  rw[if_pos e0] at hK
  exact B1.bO λA2 B2 z2=>hK F1 si rs A2 B2 (Lc S1.mod.size z2)
 have e0:¬e≠0:=by simpa using hc
 rw[if_neg e0] at hK
 refine aj.ld (c:=aa .i64) (i:=2) (x:=r.b.width) B1.rd.row (bh.get 2 _ rfl) ?_
 refine sL (b:=dy b) (bY o1) o1.cap (λx hx=>?_) (by rw[gh];omega) λsr rs2 A2 ro e2=>?_
 ·unfold dy at hx
  obtain⟨c,_,rfl⟩:=KZ.1 hx
  have:=c.toNat_lt;omega
 have B2:=B1.ext e2
 have hfit:r.fits j kd b=true↔(kd=1/\lP (dy b) r.b.width=0/\(gR (dy b) r.b.width).length=min r.b.room (r.rows - j*r.b.room)):=by
  unfold RR.fits lP
  simp only[KR,beq_iff_eq,decide_eq_true_eq]
  cases dC (dy b) r.b.width<;>simp
 refine ae (λhc=>?_) (λhc=>?_)
 ·have hnf:¬r.fits j kd b=true:=λq=>by
   obtain⟨q1,q2,_⟩:=hfit.1 q
   rw[q2,q1] at hc
   simp at hc
  rw[if_neg hnf] at hK
  exact B2.bO λA3 B3 z3=>hK F1 si rs A3 B3 (by have:=S1.mod.size;have:=e2.size;omega)
 have hkd:kd=1/\lP (dy b) r.b.width=0:=by
  simp only[Bool.or_eq_false_iff,bne_eq_false_iff_eq] at hc
  refine⟨?_,hc.2⟩
  have:kd.toNat=1:=by omega
  exact UInt8.toNat_inj.1 this
 refine aj.ld (c:=aa .i64) (i:=3) (x:=aW r.b.width) B2.rd.row (bh.get 3 _ rfl) ?_
 refine aj.ld (c:=aa .i64) (i:=6) (x:=(r.rows:Int)) B2.rd.row (bh.tail (j:=0) rfl) ?_
 refine aj.ld (c:=aa .i64) (i:=3) (x:=aW r.b.width) B2.rd.row (bh.get 3 _ rfl) ?_
 have hjr:(j:Int)*(r.b.room:Int)=((j*r.b.room:Nat):Int):=by simp
 have hw1:KG.wrap ((j:Int)*aW r.b.width)=((j*r.b.room:Nat):Int):=by
  rw[rm1,hjr];have:=ok.rows;exact wrap64 (by omega) (by omega)
 have hw2:KG.wrap ((r.rows:Int) - ((j*r.b.room:Nat):Int))=((r.rows - j*r.b.room:Nat):Int):=by
  have:=ok.rows;rw[wrap64 (by omega) (by omega)];omega
 rw[hw1,hw2,rm1,ro.n]
 have hmin:(if ((r.rows - j*r.b.room:Nat):Int)<(r.b.room:Int) then ((r.rows - j*r.b.room:Nat):Int) else (r.b.room:Int))=((min r.b.room (r.rows - j*r.b.room):Nat):Int):=by
  split<;>omega
 rw[hmin]
 refine ae (λhc=>?_) (λhc=>?_)
 ·have hnf:¬r.fits j kd b=true:=λq=>by
   obtain⟨_,_,q3⟩:=hfit.1 q
   rw[q3] at hc
   simp at hc
  rw[if_neg hnf] at hK
  exact B2.bO λA3 B3 z3=>hK F1 si rs A3 B3 (by have:=S1.mod.size;have:=e2.size;omega)
 have hln:((gR (dy b) r.b.width).length:Int)=((min r.b.room (r.rows - j*r.b.room):Nat):Int):=by simpa only[bne_eq_false_iff_eq] using hc
 have hf:r.fits j kd b=true:=hfit.2 ⟨hkd.1,hkd.2,Int.ofNat.inj hln⟩
 rw[if_pos hf] at hK
 refine aj.st B2.rd.row (i:=8) (by simp[bD]) rfl λA3 r3 m3 z3=>?_
 refine aj.st r3 (i:=9) (by simp[bD]) rfl λA4 r4 m4 z4=>?_
 have m24:=m3.trans m4
 have r4':bh A4 k Iz p r.b [.int .i64 (r.rows:Int),.int .i64 (r.at_:Int),.int .i64 (fT (some j)),sr.v]:=by
  have e:((bD p r.b++[.int .i64 (r.rows:Int),.int .i64 (r.at_:Int),.int .i64 (fT r.page),si.v]).toArray.setIfInBounds 8 (.int .i64 (j:Int))).setIfInBounds 9 sr.v=(bD p r.b++[.int .i64 (r.rows:Int),.int .i64 (r.at_:Int),.int .i64 (fT (some j)),sr.v]).toArray:=by
   simp[bD,fT]
  rw[e] at r4;exact r4
 have hbl:=ro.block
 have hk1:k<A1.size:=aG B1.rd.row
 have hz1:=B1.mod.size
 have ro0:aY A2 0 sr rs2 (gR (dy b) r.b.width):=⟨ro.out.vE,ro.len,λi x l h1 h2=>(ro.row i x l h1 h2).vE,ro.apart⟩
 have rn:yG A4 k p {r with page:=some j,ins:=gR (dy b) r.b.width} sr rs2:=
  ⟨r4',ro0.mod m24 (λb hb q=>by have:=(hbl.1 b hb).1;omega) λx hx b hb q=>by have:=(hbl.2 x hx b hb).1;omega⟩
 refine hK F1 sr rs2 A4 (B2.bf m24 rn λb hb=>?_) (by have:=S1.mod.size;have:=e2.size;have:=m24.size;omega)
 rcases hb with q|q|⟨x,hx,q⟩
 ·exact .inl (.inl q)
 ·have:=(hbl.1 b q).1
  exact .inr ⟨by omega,λu=>by have:=p1.lt b u;omega⟩
 ·have:=(hbl.2 x hx b q).1
  exact .inr ⟨by omega,λu=>by have:=p1.lt b u;omega⟩
theorem AF {K:(Sl×Bool×Int)->Heap->Prop}(hg:Gl H0)(hF0:¬F0 bx)(hk0:bx≠k)(h:c0 H0 F0 O0 k p dp si rs F A s r)(ok:r.Ok)
  (hn:r.b.name.size<=9223372036854775807) (hlogs:s.d.logs<68719470000) (hnx:s.next<1099511627776) (h0:0<=s.next)
  (hK:∀F' si' rs' A' l,c0 H0 F0 O0 k p dp si' rs' F' A' (r.next s).1 (r.next s).2.1->aT A' 0 eL 1 l ((r.next s).2.2.1.map (Lb .u64))->(∀b,al l b->A.size<=b/\¬F' b/\¬iV k si' rs' b)->((r.next s).2.2.2.1=false->l=Sl.mk none 0 0)->K (l,(r.next s).2.2.2.1,(r.next s).2.2.2.2) A'):tY.sp (aD k) A K:=by
 refine tY.of ?_
 unfold tY.vc
 unfold aD
 refine aw rfl ?_
 simp only[aq]
 obtain⟨rm1,rm2⟩:=cN r.b
 unfold RR.next at hK
 refine lh h.rd.row ?_
 refine ae (λhc=>?_) (λhc=>?_)
 ·have e0:r.b.ready≠0:=by simpa using hc
  rw[if_pos e0] at hK
  exact hK F si rs A _ h (aT.nil _ _ _ _) (λb q=>absurd q (cV b)) (λ_=>rfl)
 have e0:¬r.b.ready≠0:=by simpa using hc
 have e0':r.b.ready=0:=by omega
 rw[if_neg e0] at hK
 refine aj.ld (c:=aa .i64) (i:=7) (x:=(r.at_:Int)) h.rd.row (bh.tail (j:=1) rfl) ?_
 refine aj.ld (c:=aa .i64) (i:=6) (x:=(r.rows:Int)) h.rd.row (bh.tail (j:=0) rfl) ?_
 refine ae (λhc=>?_) (λhc=>?_)
 ·have e1 : r.at_ = r.rows := by have : (r.at_ : Int) = (r.rows : Int) := by simpa using hc
                                 omega
  rw[if_pos e1] at hK
  rw[e0']
  exact hK F si rs A _ h (aT.nil _ _ _ _) (λb q=>absurd q (cV b)) (λ_=>rfl)
 have e1:¬r.at_=r.rows:=λq=>by rw[q] at hc;simp at hc
 rw[if_neg e1] at hK
 have hat:r.at_<r.rows:=by have:=ok.at_;omega
 refine aj.ld (c:=aa .i64) (i:=7) (x:=(r.at_:Int)) h.rd.row (bh.tail (j:=1) rfl) ?_
 refine aj.ld (c:=aa .i64) (i:=3) (x:=aW r.b.width) h.rd.row (bh.get 3 _ rfl) ?_
 have hrm:=ok.room
 have hrw:=ok.rows
 rw[rm1]
 refine⟨by omega,?_⟩
 have hdiv:KG.wrap (Int.tdiv (r.at_:Int) (r.b.room:Int))=((r.at_/r.b.room:Nat):Int):=by
  have h1:Int.tdiv (r.at_:Int) (r.b.room:Int)=((r.at_/r.b.room:Nat):Int):=rfl
  have h2:=Oi r.at_ r.b.room
  rw[h1];generalize r.at_/r.b.room=q at h2 ⊢;exact wrap64 (by omega) (by omega)
 rw[hdiv]
 have hq1:=Nat.div_mul_le_self r.at_ r.b.room
 have hq2:=Oi r.at_ r.b.room
 refine qm hg hF0 hk0 h ok (by omega) (by omega) hn hlogs hnx h0 λF1 si1 rs1 A1 B1 hz=>?_
 obtain⟨k1,k2,k3,k4,_,k6⟩:=RR.dY (s:=s) (j:=r.at_/r.b.room) ok
 generalize (r.load s (r.at_/r.b.room)).1=s1 at*
 generalize (r.load s (r.at_/r.b.room)).2.1=r1 at*
 generalize (r.load s (r.at_/r.b.room)).2.2=e2 at*
 refine ae (λhc=>?_) (λhc=>?_)
 ·have e3:e2≠0:=by simpa using hc
  rw[if_pos e3] at hK
  exact hK F1 si1 rs1 A1 _ B1 (aT.nil _ _ _ _) (λb q=>absurd q (cV b)) (λ_=>rfl)
 have e3:¬e2≠0:=by simpa using hc
 rw[if_neg e3] at hK
 obtain⟨k7,k8⟩:=k6 (by omega)
 have hlen:=k1.page _ k8
 rw[k7,k2] at hlen
 have hm:=Nat.mod_lt r.at_ hrm
 have hdm:=Nat.div_add_mod r.at_ r.b.room
 have hmc:r.b.room*(r.at_/r.b.room)=r.at_/r.b.room*r.b.room:=Nat.mul_comm _ _
 have hin:r.at_%r.b.room<r1.ins.length:=by rw[hlen];omega
 refine aj.ld (c:=av) (i:=9) (x:=si1) B1.rd.row (bh.tail (j:=3) rfl) ?_
 refine aj.ld (c:=aa .i64) (i:=7) (x:=(r1.at_:Int)) B1.rd.row (bh.tail (j:=1) rfl) ?_
 refine aj.ld (c:=aa .i64) (i:=3) (x:=aW r1.b.width) B1.rd.row (bh.get 3 _ rfl) ?_
 rw[k7,rm1,k3]
 refine⟨by omega,?_⟩
 have hmod:Int.tmod (r.at_:Int) (r.b.room:Int)=((r.at_%r.b.room:Nat):Int):=rfl
 rw[hmod]
 refine B1.rd.ins.rows.ld hin λad x ha hx=>?_
 have hcol:=k1.cols _ (List.getElem_mem hin)
 refine sP hx (by omega) λl A2 o2 x2 f2=>?_
 have B2:=B1.ext x2
 refine aj.ld (c:=aa .i64) (i:=7) (x:=(r1.at_:Int)) B2.rd.row (bh.tail (j:=1) rfl) ?_
 refine aj.st B2.rd.row (i:=7) (by simp[bD]) rfl λA3 r3 m3 z3=>?_
 rw[k3,aI r.at_ (by omega)] at r3
 have r3':bh A3 k Iz p r1.b [.int .i64 (r1.rows:Int),.int .i64 ((r.at_+1:Nat):Int),.int .i64 (fT r1.page),si1.v]:=by
  have e:(bD p r1.b++[.int .i64 (r1.rows:Int),.int .i64 (r.at_:Int),.int .i64 (fT r1.page),si1.v]).toArray.setIfInBounds 7 (.int .i64 ((r.at_+1:Nat):Int))=(bD p r1.b++[.int .i64 (r1.rows:Int),.int .i64 ((r.at_+1:Nat):Int),.int .i64 (fT r1.page),si1.v]).toArray:=by
   simp[bD]
  rw[e] at r3;exact r3
 have B3:c0 H0 F0 O0 k p dp si1 rs1 F1 A3 s1 {r1 with at_:=r.at_+1}:=B2.bf m3 ⟨r3',B2.rd.ins.mod m3 (λb hb q=>B2.rd.pN (q▸hb)) λx hx b hb q=>B2.rd.nF x hx (q▸hb)⟩ λb q=>.inl q
 have hlt1:∀b,iV k si1 rs1 b->b<A1.size:=B1.rd.lt
 have hk1:k<A1.size:=hlt1 k (.inl rfl)
 refine hK F1 si1 rs1 A3 l B3 ?_ (λb hb=>?_) λu=>(by cases u)
 ·have eg:r1.ins.getD (r.at_%r.b.room) []=r1.ins[r.at_%r.b.room]:=by rw[List.getD,List.getElem?_eq_getElem hin];rfl
  rw[eg]
  exact o2.mod m3 λb hb q=>by have:=f2 b hb;omega
 ·have:=f2 b hb
  exact⟨by omega,λq=>by have:=B1.ag.lt b q;omega,λq=>by have:=hlt1 b q;omega⟩
theorem uZ {K:(Sl×Bool×Int)->Heap->Prop}(hg:Gl H0)(hF0:¬F0 bx)(hk0:bx≠k)(h:c0 H0 F0 O0 k p dp si rs F A s r)(ok:r.Ok)
  (hn:r.b.name.size<=9223372036854775807) (hlogs:s.d.logs<68719470000) (hnx:s.next<1099511627776) (h0:0<=s.next)
  (hK:∀F' si' rs' A' l,c0 H0 F0 O0 k p dp si' rs' F' A' (r.next s).1 (r.next s).2.1->aT A' 0 eL 1 l ((r.next s).2.2.1.map (Lb .u64))->(∀b,al l b->A.size<=b/\¬F' b/\¬iV k si' rs' b)->K (l,(r.next s).2.2.2.1,(r.next s).2.2.2.2) A'):tY.sp (aD k) A K:=
 AF hg hF0 hk0 h ok hn hlogs hnx h0 λF' si' rs' A' l a b c _=>hK F' si' rs' A' l a b c
end
end Go.Proofs.YtdpdmbceakdlmaaGreatDoor
