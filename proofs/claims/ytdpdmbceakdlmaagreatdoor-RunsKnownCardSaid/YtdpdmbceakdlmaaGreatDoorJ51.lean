/-
 Both disks at once: a call of each; what they tell.
-/
import Derived.Test.YtdpdmbceakdlmaaGreatDoorJ32
import Derived.Test.YtdpdmbceakdlmaaGreatDoorJ35
import Derived.Test.YtdpdmbceakdlmaaGreatDoorJ36
import Derived.Test.YtdpdmbceakdlmaaGreatDoorJ39
import Derived.Test.YtdpdmbceakdlmaaGreatDoorJ41
import Derived.Test.YtdpdmbceakdlmaaGreatDoorJ49
import Derived.Test.YtdpdmbceakdlmaaGreatDoorJ50
open Bool renaming and_eq_true->KR,or_eq_false_iff->Mg
open Decidable renaming of_not_not->Mz
open Go.Addr renaming add->La
open Go.Builtin renaming append_->KM
open Go.IntKind renaming i64->KG,u64->K0,u8->LA
open Go.Proofs.Tryz renaming prog->KE
open Go.Value renaming int->Lb
open Go.Value.slice renaming injEq->Ld
open Int renaming toNat_natCast->KU,tdiv->LP,le_refl->Mc,emod_nonneg->Oj,emod_lt_of_pos->Ol
open List renaming mem_of_getElem?->KH,getElem?_eq_getElem->KJ,mem_append->KW,replicate->KY,mem_map->KZ,getElem?_append_left->K9,getD->Lo,getElem_mem->Lt,mem_singleton->LI,length_replicate->Mq,getElem?_toArray->M3,getElem?_modify->NZ,map_replicate->QE,getElem?_of_mem->Rm
open Nat renaming le_refl->KN,le_trans->Lc,zero_le->Lh,le_succ->Lm,lt_of_lt_of_le->LJ,mul_one->LU,mod_lt->MZ,le_add_right->Nk,le_succ_of_le->Nu,reduceAdd->Of,div_le_self->Oi,le_of_eq->Qm,le_of_not_lt->RN,not_lt->TD
open Option.some renaming inj->K1
open UInt8 renaming ofNat->Lf,toNat_inj->MH
namespace Go.Proofs.YtdpdmbceakdlmaaGreatDoor
open Go.MapKept
theorem ug {a b:Sl}{L:List (List UInt8)}{H:Heap}{K:Bool->Heap->Prop}(ha:aK EN iA H a L)(hb:aK EN iA H b L)(hl:L.length<4611686018427387904)(hK:K true H):Hy.sp a b H K:=by
 refine Hy.of ?_
 unfold Hy.vc
 have an:=ha.n (by decide)
 have bn:=hb.n (by decide)
 refine aw (by simp;omega) ?_
 refine ay L.length (λk i H1=>i=(k:Int)/\H1=H) ⟨rfl,rfl⟩ ?_
 rintro k _ H1 next hk ⟨rfl,rfl⟩ hnext
 refine ae (λhc=>?_) (λ_=>hK)
 have hlt:k<L.length:=by rw[an] at hc;simpa using hc
 refine pU ha hlt ?_
 refine pU hb hlt ?_
 refine aw (by simp) (hnext hlt _ _ ⟨aI k (by omega),rfl⟩)
def JN (G:Nat->Prop)(H:Heap)(d m:Nat)(s:Dk):Prop:=∃F1 F2,bj F1 H d s/\cr F2 H m s/\(∀b,F1 b->¬F2 b)/\∀b,G b↔F1 b\/F2 b
section
variable {Q:Nat->Prop}{A B:Heap}{p dp m dm:Nat}{s1 s2:Pl}
end
theorem aN.ba {F:Nat->Prop}{H:Heap}{p dp:Nat}{s:Pl}(h:aN F H p dp s):∃D,cr D H dp s.d/\(∀b,D b->F b)/\∀D' H' d,cr D' H' dp d->Step D D' H H'->∃F',aN F' H' p dp (s.aZ d)/\Step F F' H H':=by
 obtain⟨ll,zs,D,g,hF⟩:=h
 refine⟨D,g.ba,λb hb=>(hF b).2 (.inl hb),λD' H' d hd' hS=>?_⟩
 obtain⟨q1,q2⟩:=g.ky hd' hS
 exact q1.out hF q2
theorem aN.head {F:Nat->Prop}{H:Heap}{p dp:Nat}{s:Pl}(h:aN F H p dp s):∃ll:Sl,aj H p pY (dL dp ll s)/\ll.n=s.fs.length/\F p:=by
 obtain⟨ll,zs,D,g,hF⟩:=h
 exact⟨ll,g.ag.head,g.ag.n,(hF p).2 (.inr (.inl rfl))⟩
structure kO (H0:Heap)(F0:Nat->Prop)(k p dp:Nat)(sw sl:Sl)(F:Nat->Prop)(A:Heap)(s:Pl)(w:RW):Prop where
 ag:aN F A p dp s
 wr:rz A k p w sw sl
 dis:∀b,F b->¬fg k sw sl b
 mod:Mod (λb=>F0 b\/b=k) H0 A
 own:∀b,F b->F0 b\/H0.size<=b
theorem Fi {H:Heap}{W:Int}{n:Nat}{K:Sl->Heap->Prop}(hW:0<=W)(hn:n<1099511627776)(hK:∀out H',aK EB dF H' out (bL W n)->Ext H H'->(∀b,al out b->H.size<=b)->K out H'):Gu.sp W (n:Int) H K:=by
 refine Gu.of ?_
 unfold Gu.vc
 have hu8:LA.wrap W=((Lf W.toNat).toNat:Int):=by
  have:W=(W.toNat:Int):=by omega
  rw[this,nO];simp
 have hu64:K0.wrap (n:Int)=(n:Int):=BQ (by omega)
 rw[hu8,hu64]
 refine ao λH1 z1 r1 e1=>?_
 refine ao λH2 z2 r2 e2=>?_
 refine se (fx r2) (by simp) λr H3 o e3=>?_
 have o1:=Dd ((r1.ext e2).ext e3)
 have hr:cS EB H3 r.a (cC (cg [(n:Int)])):=by
  unfold cS;rw[im,ju (fY _)];exact o.reads
 have hrn:r.n=(cC (cg [(n:Int)])).length:=by have:=o.1;rw[ca];simpa using this.symm
 have hrl:(cC (cg [(n:Int)])).length=8:=by rw[ca];simp[cg,cL]
 refine aK.append iT (s:=Sl.mk (some ⟨H.size,0,none⟩) 1 1) (x:=r) o1 hr hrn (by rw[hrl];simp) (by rw[hrl];simp) λz A' oz gz _=>?_
 have z3:=e3.size
 have own1:∀b,al (Sl.mk (some ⟨H.size,0,none⟩) 1 1) b->H.size<=b:=by
  rintro b ⟨ad,q1,q2⟩;cases q1;subst q2;exact KN _
 refine hK z A' oz ⟨by have:=((e1.trans e2).trans e3).size;have:=gz.1.size;omega,λb hb _=>(gz.1.same b (by have:=((e1.trans e2).trans e3).size;omega) λu=>by have:=own1 b u;omega).trans (((e1.trans e2).trans e3).same b hb id)⟩ λb hb=>?_
 rcases gz.2 b hb with q|q
 ·exact own1 b q
 ·omega
section
variable {H0:Heap}{F0:Nat->Prop}{k p dp:Nat}{sw sl:Sl}{F:Nat->Prop}{A:Heap}{s:Pl}{w:RW}
theorem kO.step {F':Nat->Prop}{A':Heap}{s':Pl}(h:kO H0 F0 k p dp sw sl F A s w)(hp:aN F' A' p dp s')(S:Step F F' A A'):kO H0 F0 k p dp sw sl F' A' s' w:=by
 refine⟨hp,h.wr.mod S.mod λb hb q=>h.dis b q hb,λb hb q=>?_,h.mod.trans' S.mod λb hb q=>?_,λb hb=>?_⟩
 ·rcases S.own b hb with r|r
  ·exact h.dis b r q
  ·have:=h.wr.lt b q;omega
 ·rcases h.own b q with r|r
  ·exact .inl r
  ·omega
 ·rcases S.own b hb with r|r
  ·exact h.own b r
  ·right;have:=h.mod.size;omega
theorem kO.ext {A':Heap}(h:kO H0 F0 k p dp sw sl F A s w)(e:Ext A A'):kO H0 F0 k p dp sw sl F A' s w:=h.step (h.ag.ext e) ⟨e.mod,λ_ q=>.inl q⟩
theorem kO.bf {A':Heap}{w':RW}{sw':Sl}(h:kO H0 F0 k p dp sw sl F A s w)(m:Mod (λb=>b=k) A A')(hw:rz A' k p w' sw' sl)(hs:∀b,al sw' b->al sw b):kO H0 F0 k p dp sw' sl F A' s w':=by
 refine⟨h.ag.ak λb hb hl=>m.same b hl λq=>h.dis b hb (.inl q),hw,λb hb q=>h.dis b hb (q.imp_right λr=>r.imp_left (hs b)),h.mod.trans' m λb _ q=>.inr q,h.own⟩
set_option maxHeartbeats 1000000 in
theorem Bb {H:Heap}{K:(Int×Int)->Heap->Prop}(h:rz H k p w sw sl)(hp:aN F H p dp s)(hd:∀b,F b->¬fg k sw sl b)
  (hwr:w.rows<1099511627776) (hwd:0<=w.b.width) (hn:w.b.name.size<=9223372036854775807) (hlogs:s.d.logs<68716900000) (hnx:s.next<1099511620000) (h0:0<=s.next) (hfit:s.Fit)
  (hb1:(w.out s).1.d.logs<68716950000) (hb2:(w.out s).1.next<1099511620000)
  (hb3:∀h hd,(Pl.leave (((w.out s).1.aR w.b.name 0).1.set h 2 hd) h).1.d.logs<68717000000) (hfit1:(w.out s).1.Fit) (hfit2:∀h hd,(Pl.leave (((w.out s).1.aR w.b.name 0).1.set h 2 hd) h).1.Fit)
  (hK:∀F' sw' H',aN F' H' p dp (w.close s).1->rz H' k p (w.close s).2.1 sw' sl->(∀b,F' b->¬fg k sw' sl b)->Step (λb=>F b\/fg k sw sl b) (λb=>F' b\/fg k sw' sl b) H H'->K (((w.close s).2.2.1:Int),(w.close s).2.2.2) H'):Eu.sp (aD k) H K:=by
 refine Eu.of ?_
 unfold Eu.vc
 simp only[aq,aD]
 unfold RW.close at hK
 refine lK h.row ?_
 have B0:kO H F k p dp sw sl F H s w:=⟨hp,h,hd,.refl _ _,λb q=>.inl q⟩
 -- the end of all
 have fin:∀(F':Nat->Prop) (sw':Sl) (A:Heap) (s':Pl) (w':RW),(∀b,al sw' b->al sw b)->kO H F k p dp sw' sl F' A s' w'->Step (λb=>F b\/fg k sw sl b) (λb=>F' b\/fg k sw' sl b) H A:=by
  intro F' sw' A s' w' hs B
  refine⟨B.mod.mono λb _ q=>q.imp_right .inl,λb hb=>?_⟩
  rcases hb with q|q|q|q
  ·rcases B.own b q with r|r
   ·exact .inl (.inl r)
   ·exact .inr r
  ·exact .inl (.inr (.inl q))
  ·exact .inl (.inr (.inr (.inl (hs b q))))
  ·exact .inl (.inr (.inr (.inr q)))
 by_cases e0:w.b.ready≠0
 ·rw[if_pos e0] at hK
  refine⟨λe A=>e=w.b.ready/\A=H,aw (by simpa using e0) ⟨rfl,rfl⟩,?_⟩
  rintro _ A ⟨rfl,rfl⟩
  exact aP (by simpa using e0) (hK F sw A hp h hd (.refl _ _))
 rw[if_neg e0] at hK
 obtain⟨hw0,hcl0⟩:=Rb.tO e0
 refine⟨λe A=>e=(w.out s).2.2/\∃F1 sw1,(∀b,al sw1 b->al sw b)/\kO H F k p dp sw1 sl F1 A (w.out s).1 (w.out s).2.1,?_,?_⟩
 ·refine aP (by simpa using e0) ?_
  refine zp h hp hd hw0 hn (by omega) (by omega) h0 hfit λF1 sw1 H1 p1 h1 hsub m1 own1=>?_
  refine⟨rfl,F1,sw1,hsub,p1,h1,?_,m1,own1⟩
  rintro b hb (q|q|q)
  ·rcases own1 b hb with r|r
   ·exact hd b r (.inl q)
   ·have:=h.lt b (.inl q);omega
  ·rcases own1 b hb with r|r
   ·exact hd b r (.inr (.inl (hsub b q)))
   ·have:=h.lt b (.inr (.inl (hsub b q)));omega
  ·rcases own1 b hb with r|r
   ·exact hd b r (.inr (.inr q))
   ·have:=h.lt b (.inr (.inr q));omega
 rintro _ H1 ⟨rfl,F1,sw1,hsub,B1⟩
 have p1:=B1.ag
 have h1:=B1.wr
 have hb20:0<=(w.out s).1.next:=by have:=p1.wf.tick;omega
 refine ae (λhc=>?_) (λhc=>?_)
 ·have e1:(w.out s).2.2≠0:=by simpa using hc
  rw[if_pos e1] at hK
  exact hK F1 sw1 H1 p1 h1 B1.dis (fin F1 sw1 H1 _ _ hsub B1)
 have e1:¬(w.out s).2.2≠0:=by simpa using hc
 rw[if_neg e1] at hK
 have hwb:(w.out s).2.1.b=w.b/\(w.out s).2.1.rows=w.rows:=by
  unfold RW.out at e1 ⊢
  split
  ·exact⟨rfl,rfl⟩
  ·rename_i hq
   rw[if_neg hq] at e1
   refine⟨?_,rfl⟩
   show w.b.bO _=_
   unfold Rb.bO;rw[if_neg e1]
 obtain⟨hwb1,hwb2⟩:=hwb
 rw[<-hwb1] at hn hb3 hwd hw0 hfit2
 rw[<-hwb2] at hwr
 generalize hs1:(w.out s).1=s1 at*
 generalize hw1:(w.out s).2.1=w1 at*
 refine aj.ld (c:=ar) (i:=0) (x:=aD p) h1.row (bu.get 0 _ rfl) ?_
 refine aj.ld (c:=aV) (i:=1) (x:=w1.b.name) h1.row (bu.get 1 _ rfl) ?_
 refine v8 p1 hn (by omega) (by omega) λF2 H2 p2 S2=>?_
 have B2:=B1.step p2 S2
 have hnx2:(s1.aR w1.b.name 0).1.next<=s1.next+1:=s1.jb hb20 (by omega)
 have hhead:w1.head s1=if (s1.aR w1.b.name 0).2.2≠0 then ((s1.aR w1.b.name 0).1,(s1.aR w1.b.name 0).2.2) else
   if (Pl.leave ((s1.aR w1.b.name 0).1.set (s1.aR w1.b.name 0).2.1 2 (bL w1.b.width w1.rows)) (s1.aR w1.b.name 0).2.1).2≠0 then Pl.leave ((s1.aR w1.b.name 0).1.set (s1.aR w1.b.name 0).2.1 2 (bL w1.b.width w1.rows)) (s1.aR w1.b.name 0).2.1
   else (Pl.leave ((s1.aR w1.b.name 0).1.set (s1.aR w1.b.name 0).2.1 2 (bL w1.b.width w1.rows)) (s1.aR w1.b.name 0).2.1).1.flush w1.b.name:=rfl
 have hsn:=(s1.aR w1.b.name 0).1.iu (s1.aR w1.b.name 0).2.1 2 (bL w1.b.width w1.rows)
 have hb3':=hb3 (s1.aR w1.b.name 0).2.1 (bL w1.b.width w1.rows)
 have hf3':=hfit2 (s1.aR w1.b.name 0).2.1 (bL w1.b.width w1.rows)
 generalize (s1.aR w1.b.name 0).1=s2 at*
 generalize (s1.aR w1.b.name 0).2.1=hh at*
 generalize (s1.aR w1.b.name 0).2.2=e2 at*
 -- what stands behind each cut
 obtain⟨X0,hX0⟩:∃X0:Pl×Int,X0=if e2≠0 then (s2,e2) else s2.set hh 2 (bL w1.b.width w1.rows):=⟨_,rfl⟩
 obtain⟨X1,hX1⟩:∃X1:Pl×Int,X1=if e2≠0 then (s2,e2) else Pl.leave (s2.set hh 2 (bL w1.b.width w1.rows)) hh:=⟨_,rfl⟩
 have hX1':X1=Pl.leave X0 hh:=by
  rw[hX1,hX0]
  by_cases q:e2≠0
  ·rw[if_pos q,if_pos q];exact(if_neg q).symm
  ·rw[if_neg q,if_neg q]
 have hX2:w1.head s1=if X1.2≠0 then X1 else X1.1.flush w1.b.name:=by
  rw[hhead,hX1]
  by_cases q:e2≠0
  ·rw[if_pos q,if_pos q,if_pos q]
  ·rw[if_neg q,if_neg q]
 have hX0n:X0.1.next<=s1.next+1:=by
  rw[hX0]
  by_cases q:e2≠0
  ·rw[if_pos q];exact hnx2
  ·rw[if_neg q,hsn];exact hnx2
 have hX1l:X1.2=0->X1.1.d.logs<68717000000/\X1.1.Fit:=by
  rw[hX1]
  by_cases q:e2≠0
  ·rw[if_pos q];intro r;exact absurd r q
  ·rw[if_neg q];intro _;exact⟨hb3',hf3'⟩
 refine⟨λe A=>e=X0.2/\∃F',kO H F k p dp sw1 sl F' A X0.1 w1,?_,?_⟩
 ·refine ae (λhc=>?_) (λhc=>?_)
  ·have q:¬e2≠0:=by simpa using hc
   rw[if_neg q] at hX0
   refine⟨λA=>bu A k Fv p w1.b [sw1.v,.int .i64 (w1.n:Int),sl.v,.int .i64 (w1.rows:Int)],B2.wr.row,?_⟩
   refine aj.eP (c:=ar) (i:=0) (x:=aD p) (cs:=λ_=>_) (λ_ q=>q) (λ_ _=>bu.get 0 _ rfl) ?_
   refine aj.ld (c:=aa .i64) (i:=2) (x:=w1.b.width) B2.wr.row (bu.get 2 _ rfl) ?_
   refine aj.eP (c:=aa .i64) (i:=8) (x:=(w1.rows:Int)) (cs:=λ_=>_) (λ_ q=>q) (λ_ _=>bu.tail (j:=3) rfl) ?_
   refine Fi hwd hwr λz A3 oz x3 fz=>?_
   have B3:=B2.ext x3
   refine⟨B3.wr.row,?_⟩
   refine vg (kd:=2) B3.ag (by omega) (bY oz) (λad ha r=>by have:=p2.lt _ r;have:=fz _ ⟨ad,ha,rfl⟩;omega) λF4 H4 p4 S4=>?_
   rw[hX0]
   exact⟨rfl,F4,B3.step p4 S4⟩
  ·have q:e2≠0:=by simpa using hc
   rw[if_pos q] at hX0
   rw[hX0]
   exact⟨rfl,F2,B2⟩
 rintro _ A3 ⟨rfl,F3,B3⟩
 refine⟨λe A=>e=X1.2/\∃F',kO H F k p dp sw1 sl F' A X1.1 w1,?_,?_⟩
 ·refine ae (λhc=>?_) (λhc=>?_)
  ·have q:X0.2=0:=by simpa using hc
   refine aj.ld (c:=ar) (i:=0) (x:=aD p) B3.wr.row (bu.get 0 _ rfl) ?_
   refine jF B3.ag (by omega) λF4 H4 p4 S4=>?_
   have e:X1=X0.1.aB hh:=by rw[hX1'];exact if_pos q
   rw[e]
   exact⟨rfl,F4,B3.step p4 S4⟩
  ·have q:¬X0.2=0:=by simpa using hc
   have e:X1=X0:=by rw[hX1'];exact if_neg q
   rw[e]
   exact⟨rfl,F3,B3⟩
 rintro _ A4 ⟨rfl,F4,B4⟩
 refine⟨λe A=>e=(w1.head s1).2/\∃F',kO H F k p dp sw1 sl F' A (w1.head s1).1 w1,?_,?_⟩
 ·refine ae (λhc=>?_) (λhc=>?_)
  ·have q:X1.2=0:=by simpa using hc
   refine aj.ld (c:=ar) (i:=0) (x:=aD p) B4.wr.row (bu.get 0 _ rfl) ?_
   refine aj.ld (c:=aV) (i:=1) (x:=w1.b.name) B4.wr.row (bu.get 1 _ rfl) ?_
   refine yp B4.ag (hX1l q).1 (hX1l q).2 λF5 H5 p5 S5=>?_
   have e:w1.head s1=X1.1.flush w1.b.name:=by rw[hX2];exact if_neg (by simpa using q)
   rw[e]
   exact⟨rfl,F5,B4.step p5 S5⟩
  ·have q:¬X1.2=0:=by simpa using hc
   have e:w1.head s1=X1:=by rw[hX2];exact if_pos q
   rw[e]
   exact⟨rfl,F4,B4⟩
 rintro _ A5 ⟨rfl,F5,B5⟩
 unfold RW.ends at hK
 refine ae (λhc=>?_) (λhc=>?_)
 ·have q:(w1.head s1).2≠0:=by simpa using hc
  rw[if_pos q] at hK
  refine oh B5.wr.row hw0 λA6 r6 m6 z6=>?_
  have B6:kO H F k p dp sw1 sl F5 A6 (w1.head s1).1 {w1 with b:=w1.b.bO (w1.head s1).2}:=B5.bf m6 ⟨r6,B5.wr.wait.mod m6 λb hb q=>B5.wr.tJ (q▸hb),B5.wr.last.mod m6 λb hb q=>B5.wr.xP (q▸hb)⟩ λ_ q=>q
  exact hK F5 sw1 A6 B6.ag B6.wr B6.dis (fin F5 sw1 A6 _ _ hsub B6)
 ·have q:¬(w1.head s1).2≠0:=by simpa using hc
  rw[if_neg q] at hK
  refine aj.st B5.wr.row (i:=4) (by simp[cc]) rfl λA7 r7 m7 z7=>?_
  rw[wi] at r7
  have B7:kO H F k p dp sw1 sl F5 A7 (w1.head s1).1 w1.stop:=B5.bf m7 ⟨r7,B5.wr.wait.mod m7 λb hb q=>B5.wr.tJ (q▸hb),B5.wr.last.mod m7 λb hb q=>B5.wr.xP (q▸hb)⟩ λ_ q=>q
  refine aj.ld (c:=aa .i64) (i:=8) (x:=(w1.rows:Int)) B7.wr.row (bu.tail (j:=3) rfl) ?_
  exact hK F5 sw1 A7 B7.ag B7.wr B7.dis (fin F5 sw1 A7 _ _ hsub B7)
end
section
variable {F:Nat->Prop}{H:Heap}{p dp:Nat}{s:Pl}{n:ByteArray}{W:Int}{K:(Option Addr×Int)->Heap->Prop}
theorem wI (hp:aN F H p dp s)(hn:n.size<=9223372036854775807)(hlogs:s.d.logs<68719460000)(hnx:s.next<1099511610000)(h0:0<=s.next)(hfit:s.Fit)
  (hK0:∀F' H',aN F' H' p dp (aJ s n W).1->Step F F' H H'->(aJ s n W).2.1=none->K (none,(aJ s n W).2.2) H')
  (hK1:∀F' H' k w,aN F' H' p dp (aJ s n W).1->Step F F' H H'->(aJ s n W).2.1=some w->rz H' k p w ig ig->H.size<=k->¬F' k->K (aD k,(aJ s n W).2.2) H'):GW.sp (aD p) n W H K:=by
 refine GW.of ?_
 unfold GW.vc
 simp only[aq,aD]
 refine aw rfl ?_
 refine fW ?_
 by_cases hr:aW W=0
 ·have em:aJ s n W=(s,none,60):=if_pos hr
  rw[em] at hK0
  exact aP (by simpa using hr) (hK0 F H hp (.refl _ _) rfl)
 refine aw (by simpa using hr) ?_
 obtain⟨ll,hhd,_,hFp⟩:=hp.head
 refine aj.ld (c:=ar) (i:=0) (x:=aD dp) hhd rfl ?_
 obtain⟨D,d1,_,d3⟩:=hp.ba
 refine xO d1 λD' H4 d4 S4=>?_
 obtain⟨F4,p4,T4⟩:=d3 D' H4 _ d4 S4
 have em:aJ s n W=if (s.d.create n).2≠0 then (s.aZ (s.d.create n).1,none,(s.d.create n).2)
   else if ((s.aZ (s.d.create n).1).more n 0 []).2≠0 then (((s.aZ (s.d.create n).1).more n 0 []).1,none,((s.aZ (s.d.create n).1).more n 0 []).2)
   else (((s.aZ (s.d.create n).1).more n 0 []).1,some (rA n W),0):=by unfold aJ;rw[if_neg hr]
 have hl4:(s.aZ (s.d.create n).1).d.logs<68719470000:=by have:=s.d.iI n;show (s.d.create n).1.logs<_;omega
 have hf4:(s.aZ (s.d.create n).1).Fit:=hfit.aZ (s.d.jQ n)
 have hn4:(s.aZ (s.d.create n).1).next=s.next:=rfl
 generalize s.aZ (s.d.create n).1=s4 at*
 generalize (s.d.create n).2=e4 at*
 refine ae (λhc=>?_) (λhc=>?_)
 ·have q:e4≠0:=by simpa using hc
  rw[if_pos q] at em
  rw[em] at hK0
  exact hK0 F4 H4 p4 T4 rfl
 have q:¬e4≠0:=by simpa using hc
 rw[if_neg q] at em
 refine ao λH5 z5 r5 e5=>?_
 have p5:=p4.ext e5
 have r5':bu H5 H4.size Fv p ⟨n,W,0,false⟩ [ig.v,.int .i64 ((0:Nat):Int),ig.v,.int .i64 ((0:Nat):Int)]:=r5
 have hk5:¬F4 H4.size:=λq=>by have:=p4.lt _ q;omega
 refine zv (kd:=0) (sl:=Sl.mk none 0 0) (l:=[]) r5' p5 hk5 ⟨rfl,Reads.nil _ _⟩ (by intro ad q;cases q) hn hl4 (by omega) (by omega) hf4 λF6 H6 p6 S6=>?_
 have T5:Step F F4 H H5:=T4.trans ⟨Ext.mod e5,λb q=>.inl q⟩
 have r6:=r5'.mod S6.mod hk5
 have z4:=T4.mod.size
 refine ae (λhc=>?_) (λhc=>?_)
 ·have q:(s4.more n 0 []).2≠0:=by simpa using hc
  rw[if_pos q] at em
  rw[em] at hK0
  exact hK0 F6 H6 p6 (T5.trans S6) rfl
 ·have q:¬(s4.more n 0 []).2≠0:=by simpa using hc
  rw[if_neg q] at em
  rw[em] at hK1
  refine hK1 F6 H6 H4.size (rA n W) p6 (T5.trans S6) rfl ⟨r6,aK.nil _ _ _,aT.nil _ _ _ _⟩ z4 λq=>?_
  rcases S6.own _ q with u|u
  ·exact hk5 u
  ·omega
end
def eF:Option Nat->Int
 |none=>0
 |some k=>(k:Int)+1
structure zn (H:Heap)(k p:Nat)(r:RR)(si:Sl)(rs:List Sl):Prop where
 row:bu H k Hf p r.b [.int .i64 (r.rows:Int),.int .i64 (r.at_:Int),.int .i64 (eF r.page),si.v]
 ins:aY H 0 si rs r.ins
section
variable {H:Heap}{k p:Nat}{r:RR}{si:Sl}{rs:List Sl}
theorem zn.lt (h:zn H k p r si rs):∀b,iV k si rs b->b<H.size:=by
 rintro b (rfl|q|⟨x,hx,q⟩)
 ·exact aG h.row
 ·exact(h.ins.block.1 b q).2
 ·exact(h.ins.block.2 x hx b q).2
theorem zn.mod {G:Nat->Prop}{H':Heap}(h:zn H k p r si rs)(m:Mod G H H')(hn:∀b,iV k si rs b->¬G b):zn H' k p r si rs:=
 ⟨h.row.mod m (hn k (.inl rfl)),h.ins.mod m (λb hb=>hn b (.inr (.inl hb))) λx hx b hb=>hn b (.inr (.inr ⟨x,hx,hb⟩))⟩
theorem zn.pN (h:zn H k p r si rs):¬al si k:=λq=>by
 obtain⟨cur,hc⟩:=h.ins.out.obj k q
 exact absurd (aQ hc h.row) (by decide)
theorem zn.nF (h:zn H k p r si rs):∀x∈rs,¬al x k:=λx hx q=>by
 obtain⟨l,hl⟩:=h.ins.rowAt hx
 obtain⟨cur,hc⟩:=hl.obj k q
 exact absurd (aQ hc h.row) (by decide)
end
structure dP (H0:Heap)(F0 O0:Nat->Prop)(k p dp:Nat)(si:Sl)(rs:List Sl)(F:Nat->Prop)(A:Heap)(s:Pl)(r:RR):Prop where
 ag:aN F A p dp s
 rd:zn A k p r si rs
 dis:∀b,F b->¬iV k si rs b
 mod:Mod (λb=>F0 b\/b=k) H0 A
 own:∀b,F b->F0 b\/H0.size<=b
 own2:∀b,iV k si rs b->O0 b\/H0.size<=b
section
variable {H0:Heap}{F0 O0:Nat->Prop}{k p dp:Nat}{si:Sl}{rs:List Sl}{F:Nat->Prop}{A:Heap}{s:Pl}{r:RR}
theorem dP.step {F':Nat->Prop}{A':Heap}{s':Pl}(h:dP H0 F0 O0 k p dp si rs F A s r)(hp:aN F' A' p dp s')(S:Step F F' A A'):dP H0 F0 O0 k p dp si rs F' A' s' r:=by
 refine⟨hp,h.rd.mod S.mod λb hb q=>h.dis b q hb,λb hb q=>?_,h.mod.trans' S.mod λb hb q=>?_,λb hb=>?_,h.own2⟩
 ·rcases S.own b hb with r|r
  ·exact h.dis b r q
  ·have:=h.rd.lt b q;omega
 ·rcases h.own b q with r|r
  ·exact .inl r
  ·omega
 ·rcases S.own b hb with r|r
  ·exact h.own b r
  ·right;have:=h.mod.size;omega
theorem dP.ext {A':Heap}(h:dP H0 F0 O0 k p dp si rs F A s r)(e:Ext A A'):dP H0 F0 O0 k p dp si rs F A' s r:=h.step (h.ag.ext e) ⟨Ext.mod e,λ_ q=>.inl q⟩
theorem dP.bf {A':Heap}{r':RR}{si':Sl}{rs':List Sl}(h:dP H0 F0 O0 k p dp si rs F A s r)(m:Mod (λb=>b=k) A A')(hr:zn A' k p r' si' rs')(hs:∀b,iV k si' rs' b->iV k si rs b\/(H0.size<=b/\¬F b)):dP H0 F0 O0 k p dp si' rs' F A' s r':=by
 refine⟨h.ag.ak λb hb hl=>m.same b hl λq=>h.dis b hb (.inl q),hr,λb hb q=>?_,h.mod.trans' m λb _ q=>.inr q,h.own,λb q=>?_⟩
 ·rcases hs b q with u|u
  ·exact h.dis b hb u
  ·exact u.2 hb
 ·rcases hs b q with u|u
  ·exact h.own2 b u
  ·exact .inr u.1
theorem dP.bO {e:Int}{K:Int->Heap->Prop}(h:dP H0 F0 O0 k p dp si rs F A s r)(hw:r.b.wrong=0)(hK:∀A',dP H0 F0 O0 k p dp si rs F A' s {r with b:=r.b.bO e}->A.size<=A'.size->K e A'):AK.sp (aD k) e A K:=by
 refine oh h.rd.row hw λA' r' m' z'=>hK A' (h.bf m' ⟨r',h.rd.ins.mod m' (λb hb q=>h.rd.pN (q▸hb)) λx hx b hb q=>h.rd.nF x hx (q▸hb)⟩ λb q=>.inl q) (Qm z'.symm)
set_option maxHeartbeats 1000000 in
theorem qi {j:Nat}{K:Int->Heap->Prop}(h:dP H0 F0 O0 k p dp si rs F A s r)(ok:r.Ok)(hw0:r.b.wrong=0)(hj:j*r.b.room<=r.rows)(hj2:j<1099511627776)
  (hn:r.b.name.size<=9223372036854775807) (hlogs:s.d.logs<68719470000) (hnx:s.next<1099511620000) (h0:0<=s.next)
  (hK:∀F' si' rs' A',dP H0 F0 O0 k p dp si' rs' F' A' (r.load s j).1 (r.load s j).2.1->A.size<=A'.size->K (r.load s j).2.2 A'):Ea.sp (aD k) (j:Int) A K:=by
 refine Ea.of ?_
 unfold Ea.vc
 simp only[aq,aD]
 obtain⟨rm1,rm2⟩:=cN r.b
 unfold RR.load at hK
 refine aj.ld (c:=aa .i64) (i:=7) (x:=eF r.page) h.rd.row (bu.tail (j:=2) rfl) ?_
 rw[aI j (by omega)]
 have e1:((j+1:Nat):Int)=(j:Int)+1:=by omega
 by_cases hp:r.page=some j
 ·rw[if_pos hp] at hK
  refine aP (by rw[hp];simp[eF]) ?_
  exact hK F si rs A h (KN _)
 rw[if_neg hp] at hK
 refine aw ?_ ?_
 ·cases e:r.page with
  |none=>simp only[eF,beq_eq_false_iff_ne,ne_eq];omega
  |some i=>
    have:i≠j:=λq=>hp (by rw[e,q])
    simp only[eF,beq_eq_false_iff_ne,ne_eq];omega
 refine aj.ld (c:=aa .i64) (i:=2) (x:=r.b.width) h.rd.row (bu.get 2 _ rfl) ?_
 refine fW ?_
 refine vJ h.rd.row h.ag (λq=>h.dis k q (.inl rfl)) hn hlogs hnx h0 λF1 A1 sl p1 S1 o1 f1 hb1 _=>?_
 rw[e1] at p1 o1 hb1 ⊢
 have B1:=h.step p1 S1
 generalize (s.look r.b.name ((j:Int)+1)).1=s1 at*
 generalize (s.look r.b.name ((j:Int)+1)).2.1=kd at*
 generalize (s.look r.b.name ((j:Int)+1)).2.2.1=b at*
 generalize (s.look r.b.name ((j:Int)+1)).2.2.2=e at*
 refine ae (λhc=>?_) (λhc=>?_)
 ·have e0:e≠0:=by simpa using hc
  rw[if_pos e0] at hK
  exact B1.bO hw0 λA2 B2 z2=>hK F1 si rs A2 B2 (Lc S1.mod.size z2)
 have e0:¬e≠0:=by simpa using hc
 rw[if_neg e0] at hK
 refine aj.ld (c:=aa .i64) (i:=2) (x:=r.b.width) B1.rd.row (bu.get 2 _ rfl) ?_
 refine sf (b:=dy b) o1 (by rw[gh];omega) λsr rs2 A2 ro e2=>?_
 have B2:=B1.ext e2
 have hfit:r.fits j kd b=true↔(kd=1/\lP (dy b) r.b.width=0/\(gR (dy b) r.b.width).length=min r.b.room (r.rows - j*r.b.room)):=by
  unfold RR.fits lP
  simp only[KR,beq_iff_eq,decide_eq_true_eq]
  cases dC (dy b) r.b.width<;>simp
 refine ae (λhc=>?_) (λhc=>?_)
 ·have hnf:¬r.fits j kd b=true:=λq=>by
   obtain⟨q1,q2,_⟩:=hfit.1 q
   rw[q2,q1] at hc
   simp at hc
  rw[if_neg hnf] at hK
  exact B2.bO hw0 λA3 B3 z3=>hK F1 si rs A3 B3 (by have:=S1.mod.size;have:=e2.size;omega)
 have hkd:kd=1/\lP (dy b) r.b.width=0:=by
  simp only[Mg,bne_eq_false_iff_eq] at hc
  refine⟨?_,hc.2⟩
  have:kd.toNat=1:=by omega
  exact MH.1 this
 refine aj.ld (c:=aa .i64) (i:=5) (x:=(r.rows:Int)) B2.rd.row (bu.tail (j:=0) rfl) ?_
 have hjr:(j:Int)*(r.b.room:Int)=((j*r.b.room:Nat):Int):=by simp
 have hw1:KG.wrap ((j:Int)*aW r.b.width)=((j*r.b.room:Nat):Int):=by
  rw[rm1,hjr];have:=ok.rows;exact wrap64 (by omega) (by omega)
 have hw2:KG.wrap ((r.rows:Int) - ((j*r.b.room:Nat):Int))=((r.rows - j*r.b.room:Nat):Int):=by
  have:=ok.rows;rw[wrap64 (by omega) (by omega)];omega
 rw[hw1,hw2,rm1,ro.n]
 have hmin:(if ((r.rows - j*r.b.room:Nat):Int)<(r.b.room:Int) then ((r.rows - j*r.b.room:Nat):Int) else (r.b.room:Int))=((min r.b.room (r.rows - j*r.b.room):Nat):Int):=by
  split<;>omega
 rw[hmin]
 refine ae (λhc=>?_) (λhc=>?_)
 ·have hnf:¬r.fits j kd b=true:=λq=>by
   obtain⟨_,_,q3⟩:=hfit.1 q
   rw[q3] at hc
   simp at hc
  rw[if_neg hnf] at hK
  exact B2.bO hw0 λA3 B3 z3=>hK F1 si rs A3 B3 (by have:=S1.mod.size;have:=e2.size;omega)
 have hln:((gR (dy b) r.b.width).length:Int)=((min r.b.room (r.rows - j*r.b.room):Nat):Int):=by simpa only[bne_eq_false_iff_eq] using hc
 have hf:r.fits j kd b=true:=hfit.2 ⟨hkd.1,hkd.2,Int.ofNat.inj hln⟩
 rw[if_pos hf] at hK
 refine aj.st B2.rd.row (i:=7) (by simp[cc]) rfl λA3 r3 m3 z3=>?_
 refine aj.st r3 (i:=8) (by simp[cc]) rfl λA4 r4 m4 z4=>?_
 have m24:=m3.trans m4
 have r4':bu A4 k Hf p r.b [.int .i64 (r.rows:Int),.int .i64 (r.at_:Int),.int .i64 (eF (some j)),sr.v]:=by
  have e:((cc p r.b++[.int .i64 (r.rows:Int),.int .i64 (r.at_:Int),.int .i64 (eF r.page),si.v]).toArray.setIfInBounds 7 (.int .i64 ((j:Int)+1))).setIfInBounds 8 sr.v=(cc p r.b++[.int .i64 (r.rows:Int),.int .i64 (r.at_:Int),.int .i64 (eF (some j)),sr.v]).toArray:=by
   simp[cc,eF]
  rw[e] at r4;exact r4
 have hbl:=ro.block
 have hk1:k<A1.size:=aG B1.rd.row
 have hz1:=B1.mod.size
 have ro0:aY A2 0 sr rs2 (gR (dy b) r.b.width):=⟨ro.out.vE,ro.len,λi x l h1 h2=>(ro.row i x l h1 h2).vE,ro.apart⟩
 have rn:zn A4 k p {r with page:=some j,ins:=gR (dy b) r.b.width} sr rs2:=
  ⟨r4',ro0.mod m24 (λb hb q=>by have:=(hbl.1 b hb).1;omega) λx hx b hb q=>by have:=(hbl.2 x hx b hb).1;omega⟩
 refine hK F1 sr rs2 A4 (B2.bf m24 rn λb hb=>?_) (by have:=S1.mod.size;have:=e2.size;have:=m24.size;omega)
 rcases hb with q|q|⟨x,hx,q⟩
 ·exact .inl (.inl q)
 ·have:=(hbl.1 b q).1
  exact .inr ⟨by omega,λu=>by have:=p1.lt b u;omega⟩
 ·have:=(hbl.2 x hx b q).1
  exact .inr ⟨by omega,λu=>by have:=p1.lt b u;omega⟩
theorem Cr {K:(Sl×Bool×Int)->Heap->Prop}(h:dP H0 F0 O0 k p dp si rs F A s r)(ok:r.Ok)
  (hn:r.b.name.size<=9223372036854775807) (hlogs:s.d.logs<68719470000) (hnx:s.next<1099511620000) (h0:0<=s.next)
  (hK:∀F' si' rs' A' l,dP H0 F0 O0 k p dp si' rs' F' A' (r.next s).1 (r.next s).2.1->Ints .u64 A' l (r.next s).2.2.1->(∀b,al l b->iV k si' rs' b/\b≠k)->A.size<=A'.size->K (l,(r.next s).2.2.2.1,(r.next s).2.2.2.2) A'):E0.sp (aD k) A K:=by
 refine E0.of ?_
 unfold E0.vc
 simp only[aq,aD]
 obtain⟨rm1,rm2⟩:=cN r.b
 unfold RR.next at hK
 refine lK h.rd.row ?_
 refine ae (λhc=>?_) (λhc=>?_)
 ·have e0:r.b.ready≠0:=by simpa using hc
  rw[if_pos e0] at hK
  exact hK F si rs A _ h ⟨rfl,Reads.nil _ _⟩ (λb q=>absurd q (cV b)) (KN _)
 have e0:¬r.b.ready≠0:=by simpa using hc
 obtain⟨hw0,_⟩:=Rb.tO e0
 rw[if_neg e0] at hK
 refine aj.ld (c:=aa .i64) (i:=6) (x:=(r.at_:Int)) h.rd.row (bu.tail (j:=1) rfl) ?_
 refine aj.ld (c:=aa .i64) (i:=5) (x:=(r.rows:Int)) h.rd.row (bu.tail (j:=0) rfl) ?_
 have hat0:=ok.at_
 refine ae (λhc=>?_) (λhc=>?_)
 ·have e1 : r.at_ = r.rows := by have : (r.at_ : Int) ≥ (r.rows : Int) := by simpa using hc
                                 omega
  rw[if_pos e1] at hK
  exact hK F si rs A _ h ⟨rfl,Reads.nil _ _⟩ (λb q=>absurd q (cV b)) (KN _)
 have hat : r.at_ < r.rows := by have : ¬ (r.at_ : Int) ≥ (r.rows : Int) := by simpa using hc
                                 omega
 rw[if_neg (by omega)] at hK
 refine aj.ld (c:=aa .i64) (i:=2) (x:=r.b.width) h.rd.row (bu.get 2 _ rfl) ?_
 refine fW ?_
 refine aj.ld (c:=aa .i64) (i:=6) (x:=(r.at_:Int)) h.rd.row (bu.tail (j:=1) rfl) ?_
 have hrm:=ok.room
 have hrw:=ok.rows
 rw[rm1]
 refine⟨by omega,?_⟩
 have hdiv:KG.wrap (LP (r.at_:Int) (r.b.room:Int))=((r.at_/r.b.room:Nat):Int):=by
  have h1:LP (r.at_:Int) (r.b.room:Int)=((r.at_/r.b.room:Nat):Int):=rfl
  have h2:=Oi r.at_ r.b.room
  rw[h1];generalize r.at_/r.b.room=q at h2 ⊢;exact wrap64 (by omega) (by omega)
 rw[hdiv]
 have hq1:=Nat.div_mul_le_self r.at_ r.b.room
 have hq2:=Oi r.at_ r.b.room
 refine qi h ok hw0 (by omega) (by omega) hn hlogs hnx h0 λF1 si1 rs1 A1 B1 hz=>?_
 obtain⟨k1,k2,k3,k4,_,k6⟩:=RR.dY (s:=s) (j:=r.at_/r.b.room) ok
 generalize (r.load s (r.at_/r.b.room)).1=s1 at*
 generalize (r.load s (r.at_/r.b.room)).2.1=r1 at*
 generalize (r.load s (r.at_/r.b.room)).2.2=e2 at*
 refine ae (λhc=>?_) (λhc=>?_)
 ·have e3:e2≠0:=by simpa using hc
  rw[if_pos e3] at hK
  exact hK F1 si1 rs1 A1 _ B1 ⟨rfl,Reads.nil _ _⟩ (λb q=>absurd q (cV b)) hz
 have e3:¬e2≠0:=by simpa using hc
 rw[if_neg e3] at hK
 obtain⟨k7,k8⟩:=k6 (by omega)
 have hlen:=k1.page _ k8
 rw[k7,k2] at hlen
 have hm:=MZ r.at_ hrm
 have hdm:=Nat.div_add_mod r.at_ r.b.room
 have hmc:r.b.room*(r.at_/r.b.room)=r.at_/r.b.room*r.b.room:=Nat.mul_comm _ _
 have hin:r.at_%r.b.room<r1.ins.length:=by rw[hlen];omega
 refine aj.ld (c:=av) (i:=8) (x:=si1) B1.rd.row (bu.tail (j:=3) rfl) ?_
 refine aj.ld (c:=aa .i64) (i:=6) (x:=(r1.at_:Int)) B1.rd.row (bu.tail (j:=1) rfl) ?_
 rw[k3]
 refine⟨by omega,?_⟩
 have hmod:Int.tmod (r.at_:Int) (r.b.room:Int)=((r.at_%r.b.room:Nat):Int):=rfl
 rw[hmod]
 have hir:r.at_%r.b.room<rs1.length:=by rw[B1.rd.ins.len];exact hin
 have rld:∀{K:Addr->Sl->Prop},(∀a,K a rs1[r.at_%r.b.room])->ab si1.a λa=>(0<=((r.at_%r.b.room:Nat):Int)/\((r.at_%r.b.room:Nat):Int)<(si1.n:Int))/\Go.Proofs.YtdpdmbceakdlmaaGreatDoor.ld av A1 (a.add (((r.at_%r.b.room:Nat):Int).toNat*1)) λx=>K a x:=λ{K} hk=>by
  obtain⟨ad,ha,hc⟩:=B1.rd.ins.out.reads.at (i:=r.at_%r.b.room) (by simpa using hir)
  refine dv ad ha ⟨⟨by omega,by rw[B1.rd.ins.n];omega⟩,rs1[r.at_%r.b.room],?_,hk ad⟩
  rw[KU,LU,hc,List.getElem_map]
 refine rld λ_=>?_
 have ol:=B1.rd.ins.row _ _ _ (KJ hir) (KJ hin)
 refine aj.ld (c:=aa .i64) (i:=6) (x:=(r1.at_:Int)) B1.rd.row (bu.tail (j:=1) rfl) ?_
 refine aj.st B1.rd.row (i:=6) (by simp[cc]) rfl λA3 r3 m3 z3=>?_
 rw[k3,aI r.at_ (by omega)] at r3
 have r3':bu A3 k Hf p r1.b [.int .i64 (r1.rows:Int),.int .i64 ((r.at_+1:Nat):Int),.int .i64 (eF r1.page),si1.v]:=by
  have e:(cc p r1.b++[.int .i64 (r1.rows:Int),.int .i64 (r.at_:Int),.int .i64 (eF r1.page),si1.v]).toArray.setIfInBounds 6 (.int .i64 ((r.at_+1:Nat):Int))=(cc p r1.b++[.int .i64 (r1.rows:Int),.int .i64 ((r.at_+1:Nat):Int),.int .i64 (eF r1.page),si1.v]).toArray:=by
   simp[cc]
  rw[e] at r3;exact r3
 have B3:dP H0 F0 O0 k p dp si1 rs1 F1 A3 s1 {r1 with at_:=r.at_+1}:=B1.bf m3 ⟨r3',B1.rd.ins.mod m3 (λb hb q=>B1.rd.pN (q▸hb)) λx hx b hb q=>B1.rd.nF x hx (q▸hb)⟩ λb q=>.inl q
 have hmem:rs1[r.at_%r.b.room]∈rs1:=Lt hir
 refine hK F1 si1 rs1 A3 _ B3 ?_ (λb hb=>⟨.inr (.inr ⟨_,hmem,hb⟩),λq=>B1.rd.nF _ hmem (q▸hb)⟩) (by omega)
 have eg:r1.ins.getD (r.at_%r.b.room) []=r1.ins[r.at_%r.b.room]:=by rw[Lo,KJ hin];rfl
 rw[eg]
 exact(aT.ints ol).mod m3 λad ha q=>B1.rd.nF _ hmem (q▸⟨ad,ha,rfl⟩)
end
theorem oP {n room:Nat}{H:Heap}{K:Int->Heap->Prop}(hr:0<room/\room<=504)(hn:n<=528482304)(hK:K (az n room:Int) H):Ek.sp (n:Int) (room:Int) H K:=by
 refine Ek.of ?_
 unfold Ek.vc
 refine⟨by omega,?_⟩
 have e1:KG.wrap ((n:Int)+(room:Int))=((n+room:Nat):Int):=by rw[wrap64 (by omega) (by omega)];omega
 have e2:KG.wrap (((n+room:Nat):Int) - 1)=((n+room - 1:Nat):Int):=by rw[wrap64 (by omega) (by omega)];omega
 have e3:LP ((n+room - 1:Nat):Int) (room:Int)=((az n room:Nat):Int):=rfl
 rw[e1,e2,e3]
 have:=df (n:=n) hr.1
 rw[wrap64 (by omega) (by omega)]
 exact hK
section
variable {F:Nat->Prop}{H:Heap}{p dp:Nat}{s:Pl}{n:ByteArray}{W:Int}{K:(Option Addr×Int)->Heap->Prop}
set_option maxHeartbeats 1000000 in
theorem vH (hp:aN F H p dp s)(hn:n.size<=9223372036854775807)(hlogs:s.d.logs<68719460000)(hnx:s.next<1099511620000)(h0:0<=s.next)(hlog2:(s.look n 0).1.d.logs<68719476736)
  (hK0:∀F' H',aN F' H' p dp (rnOpen s n W).1->Step F F' H H'->(rnOpen s n W).2.1=none->K (none,(rnOpen s n W).2.2) H')
  (hK1:∀F' H' k r,aN F' H' p dp (rnOpen s n W).1->Step F F' H H'->(rnOpen s n W).2.1=some r->zn H' k p r ig []->H.size<=k->¬F' k->K (aD k,(rnOpen s n W).2.2) H'):Gt.sp (aD p) n W H K:=by
 refine Gt.of ?_
 unfold Gt.vc
 simp only[aq,aD]
 refine aw rfl ?_
 refine fW ?_
 by_cases hr:aW W=0
 ·have em:rnOpen s n W=(s,none,60):=if_pos hr
  rw[em] at hK0
  exact aP (by simpa using hr) (hK0 F H hp (.refl _ _) rfl)
 refine aw (by simpa using hr) ?_
 refine ao λH3 z3 r3 e3=>?_
 have p3:=hp.ext e3
 have S3:Step F F H H3:=⟨Ext.mod e3,λb q=>.inl q⟩
 have hk:¬F H.size:=λq=>by have:=hp.lt _ q;omega
 have b3:bu H3 H.size Hf p ⟨n,W,0,false⟩ [.int .i64 ((0:Nat):Int),.int .i64 ((0:Nat):Int),.int .i64 (eF none),ig.v]:=r3
 refine vJ (g:=0) (b:=⟨n,W,0,false⟩) b3 p3 hk hn (by omega) hnx h0 λF4 H4 sl p4 S4 hb4 f4 hl4 c4=>?_
 have em:rnOpen s n W=if (s.look n 0).2.2.2≠0 then ((s.look n 0).1,none,(s.look n 0).2.2.2)
  else if ¬((s.look n 0).2.1=2/\(s.look n 0).2.2.1.length=9/\(((s.look n 0).2.2.1.getD 0 0).toNat:Int)=W) then ((s.look n 0).1,none,280)
  else if ((s.look n 0).1.d.len n).2≠0 then ((s.look n 0).1,none,((s.look n 0).1.d.len n).2)
  else if bH (dy ((s.look n 0).2.2.1.drop 1))<=528482304/\((s.look n 0).1.d.len n).1=1+az (bH (dy ((s.look n 0).2.2.1.drop 1))).toNat (aW W).toNat then
   ((s.look n 0).1,some ⟨⟨n,W,0,false⟩,(bH (dy ((s.look n 0).2.2.1.drop 1))).toNat,0,none,[]⟩,0)
  else ((s.look n 0).1,none,280):=by unfold rnOpen;rw[if_neg hr]
 rw[em] at hK0 hK1
 simp only at p4 hb4 hl4 ⊢
 generalize (s.look n 0).1=s4 at*
 generalize (s.look n 0).2.1=kd at*
 generalize (s.look n 0).2.2.1=b at*
 generalize (s.look n 0).2.2.2=e at*
 have T4:=S3.trans S4
 have b4:=b3.mod S4.mod hk
 have hbn:=hb4.n
 refine ae (λhc=>?_) (λhc=>?_)
 ·have e0:e≠0:=by simpa using hc
  rw[if_pos e0] at hK0
  exact hK0 F4 H4 p4 T4 rfl
 have e0:¬e≠0:=by simpa using hc
 rw[if_neg e0] at hK0 hK1
 refine ae (λhc=>?_) (λhc=>?_)
 ·have hnot:¬(kd=2/\b.length=9/\((b.getD 0 0).toNat:Int)=W):=by
   rintro⟨q1,q2,_⟩
   rw[hbn,q2,q1] at hc
   simp at hc
  rw[if_pos hnot] at hK0
  exact hK0 F4 H4 p4 T4 rfl
 have hk9:kd=2/\b.length=9:=by
  simp only[Mg,bne_eq_false_iff_eq] at hc
  refine⟨MH.1 (by have:=hc.1;show kd.toNat=2;omega),by have:=hc.2;omega⟩
 obtain⟨hkd,hb9⟩:=hk9
 refine dZ hb4 (i:=0) (by omega) rfl λad ha=>?_
 have hw8:KG.wrap ((b[0]'(by omega)).toNat:Int)=((b.getD 0 0).toNat:Int):=by
  have:b.getD 0 0=b[0]'(by omega):=by rw[Lo,KJ (by omega)];rfl
  have hlt:=(b[0]'(by omega)).toNat_lt
  rw[this,wrap64 (by omega) (by omega)]
 rw[hw8]
 refine ae (λhc=>?_) (λhc=>?_)
 ·have hnot:¬(kd=2/\b.length=9/\((b.getD 0 0).toNat:Int)=W):=by
   rintro⟨_,_,q3⟩
   rw[q3] at hc
   simp at hc
  rw[if_pos hnot] at hK0
  exact hK0 F4 H4 p4 T4 rfl
 have hyes:¬¬(kd=2/\b.length=9/\((b.getD 0 0).toNat:Int)=W):=λq=>q ⟨hkd,hb9,by simpa only[bne_eq_false_iff_eq] using hc⟩
 rw[if_neg hyes] at hK0 hK1
 refine⟨by omega,?_⟩
 have hd:=hb4.drop c4 1
 have hl8:(dy (b.drop 1)).length=8:=by rw[gh,List.length_drop];omega
 refine sf (b:=dy (b.drop 1)) hd (by omega) λsr rs H5 ro e5'=>?_
 rw[qN hl8] at ro
 have p5:=p4.ext e5'
 have T5:Step F F4 H H5:=T4.trans ⟨Ext.mod e5',λb q=>.inl q⟩
 have b5:=b4.ext e5'
 obtain⟨ll,hhd,_,hFp⟩:=p5.head
 refine aj.ld (c:=ar) (i:=0) (x:=aD dp) hhd rfl ?_
 obtain⟨D,d1,_,_⟩:=p5.ba
 refine nc d1 hlog2 λH6 e6=>?_
 have p6:=p5.ext e6
 have T6:Step F F4 H H6:=T5.trans ⟨Ext.mod e6,λb q=>.inl q⟩
 have b6:=b5.ext e6
 have ro6:Rows H6 sr [[bH (dy (b.drop 1))]]:=(ro.mod e6 (λ_ _ u=>u) λ_ _ _ _ u=>u).rows
 have hm:=Dk.kM d1.wf n
 generalize (s4.d.len n).1=N at*
 generalize (s4.d.len n).2=e5 at*
 refine ae (λhc=>?_) (λhc=>?_)
 ·have e6:e5≠0:=by simpa using hc
  rw[if_pos e6] at hK0
  exact hK0 F4 H6 p6 T6 rfl
 have e6':¬e5≠0:=by simpa using hc
 rw[if_neg e6'] at hK0 hK1
 have wld:∀{K:Addr->Sl->Addr->Int->Prop},(∀a x c,K a x c (bH (dy (b.drop 1))))->ab sr.a λa_2=>(0<=(0:Int)/\(0:Int)<(sr.n:Int))/\ld av H6 (a_2.add ((0:Int).toNat*1)) λ(x_2:Sl)=>ab x_2.a λa_3=>(0<=(0:Int)/\(0:Int)<(x_2.n:Int))/\ld (aa .u64) H6 (a_3.add ((0:Int).toNat*1)) λ(x_3:Int)=>K a_2 x_2 a_3 x_3:=λ{K} hk=>by
  refine ro6.ld (i:=0) (by simp) λad1 x1 ha1 hx1=>?_
  have hx1':Ints .u64 H6 x1 [bH (dy (b.drop 1))]:=hx1
  exact ir hx1' (i:=0) (j:=0) rfl (by simp) λad2 ha2=>hk ad1 x1 ad2
 have hwr:=gT (dy (b.drop 1))
 generalize bH (dy (b.drop 1))=w at*
 have hrm:=cN ⟨n,W,0,false⟩
 refine wld λ_ _ _=>?_
 refine ae (λhc=>?_) (λhc=>?_)
 ·have hw : ¬ w ≤ 528482304 := by have : w > 528482304 := by simpa using hc
                                  omega
  rw[if_neg (λq=>hw q.1)] at hK0
  exact hK0 F4 H6 p6 T6 rfl
 ·have hw : w ≤ 528482304 := by have : ¬ w > 528482304 := by simpa using hc
                                omega
  refine wld λ_ _ _=>?_
  obtain⟨wn,rfl⟩:∃wn:Nat,w=(wn:Int):=⟨w.toNat,by omega⟩
  rw[show KG.wrap (wn:Int)=(wn:Int) from wrap64 (by omega) (by omega)]
  have hroom:0<(Rb.room ⟨n,W,0,false⟩):=by
   have:=hrm.1;simp only at this;omega
  have hrr:aW W=((aW W).toNat:Int):=hrm.1
  rw[hrr]
  refine oP ⟨hroom,hrm.2⟩ (by omega) ?_
  have hpl:=df (n:=wn) hroom
  have hrt:Rb.room ⟨n,W,0,false⟩=(aW W).toNat:=rfl
  rw[hrt] at hpl
  have w2:KG.wrap (1+(az wn (aW W).toNat:Int))=((1+az wn (aW W).toNat:Nat):Int):=by
   rw[wrap64 (by omega) (by omega)];omega
  rw[w2]
  rw[KU] at hK0 hK1
  refine ae (λhc=>?_) (λhc=>?_)
  ·have e7:¬(((wn:Nat):Int)<=528482304/\N=1+az wn (aW W).toNat):=λq=>by
    rw[q.2] at hc;simp at hc
   rw[if_neg e7] at hK0
   exact hK0 F4 H6 p6 T6 rfl
  ·have e7:N=1+az wn (aW W).toNat:=by
    have:(N:Int)=((1+az wn (aW W).toNat:Nat):Int):=by simpa using hc
    omega
   rw[if_pos ⟨hw,e7⟩] at hK1
   refine wld λ_ _ _=>?_
   rw[show KG.wrap (wn:Int)=(wn:Int) from wrap64 (by omega) (by omega)]
   refine aj.st b6 (i:=5) (by simp[cc]) rfl λH7 r7 m7 z7=>?_
   have hk4:¬F4 H.size:=λq=>by
    rcases S4.own _ q with u|u
    ·exact hk u
    ·omega
   have:=T6.mod.size
   refine hK1 F4 H7 H.size ⟨⟨n,W,0,false⟩,wn,0,none,[]⟩ (p6.ak λb hb _=>m7.same b (p6.lt b hb) λq=>hk4 (q▸hb)) ⟨⟨by omega,λb hb hn=>(m7.same b (by omega) λq=>by omega).trans (T6.mod.same b hb hn)⟩,λb hb=>T6.own b hb⟩ rfl ⟨r7,aY.nil _ _⟩ (KN _) hk4
end
section
variable {H0:Heap}{F0 O0:Nat->Prop}{k p dp:Nat}{si:Sl}{rs:List Sl}{F:Nat->Prop}{A:Heap}{s:Pl}{r:RR}{low:Sl}{ll:List Int}
theorem dP.start (h:dP H0 F0 O0 k p dp si rs F A s r):dP A F (iV k si rs) k p dp si rs F A s r:=⟨h.ag,h.rd,h.dis,.refl _ _,λ_ q=>.inl q,λ_ q=>.inl q⟩
theorem dP.trans {si':Sl}{rs':List Sl}{F':Nat->Prop}{A':Heap}{s':Pl}{r':RR}(h:dP H0 F0 O0 k p dp si rs F A s r)(g:dP A F (iV k si rs) k p dp si' rs' F' A' s' r'):dP H0 F0 O0 k p dp si' rs' F' A' s' r':=by
 have z:=h.mod.size
 refine⟨g.ag,g.rd,g.dis,h.mod.trans' g.mod λb hb q=>?_,λb hb=>?_,λb hb=>?_⟩
 ·rcases q with q|q
  ·rcases h.own b q with u|u
   ·exact .inl u
   ·omega
  ·exact .inr q
 ·rcases g.own b hb with q|q
  ·exact h.own b q
  ·right;omega
 ·rcases g.own2 b hb with q|q
  ·exact h.own2 b q
  ·right;omega
theorem RR.Ok.HC (h:r.Ok){m:Nat}(hm:m<=r.rows):({r with at_:=m}:RR).Ok:=⟨h.room,hm,h.page,h.rows,h.cols⟩
theorem CU {B:Heap}{s':Pl}{r':RR}{F':Nat->Prop}{si':Sl}{rs':List Sl}{m0:Nat}{K:Int->Heap->Prop}(G:dP A F (iV k si rs) k p dp si' rs' F' B s' r')(hl:Ints .u64 A low ll)(hlb:∀ad,low.a=some ad->ll≠[]->¬F ad.block/\ad.block≠k)(hc:∀l∈r'.ins,l.length<=16)(hn:r'.ins.length<=1000000)(hm0:r'.at_=m0)(hmb:m0<=528482304)
  (hK:∀B',dP A F (iV k si rs) k p dp si' rs' F' B' s' {r' with at_:=m0+below ll r'.ins}->K 0 B'):
  aC Int (0:Int) B λnext_1 i H11=>Go.Proofs.YtdpdmbceakdlmaaGreatDoor.ld av H11 ((⟨k,0,none⟩:Addr).add 8) λ(x_8:Sl)=>br (decide (i<(x_8.n:Int))) (Go.Proofs.YtdpdmbceakdlmaaGreatDoor.ld av H11 ((⟨k,0,none⟩:Addr).add 8) λ(x_9:Sl)=>ab x_9.a λa_13=>(0<=i/\i<(x_9.n:Int))/\Go.Proofs.YtdpdmbceakdlmaaGreatDoor.ld av H11 (a_13.add (i.toNat*1)) λ(x_10:Sl)=>BD.sp x_10 low H11 λ(r_3:Int) H12=>br (decide (r_3<(0:Int))) (Go.Proofs.YtdpdmbceakdlmaaGreatDoor.ld (aa .i64) H12 ((⟨k,0,none⟩:Addr).add 6) λ(x_11:Int)=>Go.Proofs.YtdpdmbceakdlmaaGreatDoor.st H12 ((⟨k,0,none⟩:Addr).add 6) (.int .i64 (KG.wrap (x_11+(1:Int)))) λH13=>next_1 (KG.wrap (i+(1:Int))) H13) (K (0:Int) H12)) (K (0:Int) H11):=by
 refine ay r'.ins.length (λi z C=>z=(i:Int)/\dP A F (iV k si rs) k p dp si' rs' F' C s' {r' with at_:=m0+i}/\∀x,x<i->bz (r'.ins.getD x []) ll<0) ⟨rfl,by subst hm0;exact G,λx hx=>by omega⟩ ?_
 rintro i _ C next hi ⟨rfl,GC,hb⟩ hnext
 refine aj.ld (c:=av) (i:=8) (x:=si') GC.rd.row (bu.tail (j:=3) rfl) ?_
 have hin:=GC.rd.ins.n
 simp only at hin
 refine ae (λhc1=>?_) (λhc1=>?_)
 ·have hlt : i < r'.ins.length := by have : (i : Int) < (si'.n : Int) := by simpa using hc1
                                     omega
  refine aj.ld (c:=av) (i:=8) (x:=si') GC.rd.row (bu.tail (j:=3) rfl) ?_
  refine GC.rd.ins.rows.ld hlt λad x ha hx=>?_
  have hcol:=hc _ (Lt hlt)
  have hlC:Ints .u64 C low ll:=by
   by_cases hne:ll=[]
   ·subst hne;exact⟨hl.len,λi v hv=>by simp at hv⟩
   ·exact hl.mod GC.mod λad ha q=>by
     obtain⟨q1,q2⟩:=hlb ad ha hne
     rcases q with q|q
     ·exact q1 q
     ·exact q2 q
  refine lC hx hlC (by show (r'.ins[i]).length<_;omega) ?_
  have eg:r'.ins.getD i []=r'.ins[i]:=tS hlt
  rw[<-eg]
  refine ae (λhc2=>?_) (λhc2=>?_)
  ·have e:bz (r'.ins.getD i []) ll<0:=by simpa using hc2
   refine aj.ld (c:=aa .i64) (i:=6) (x:=((m0+i:Nat):Int)) GC.rd.row (bu.tail (j:=1) rfl) ?_
   refine aj.st GC.rd.row (i:=6) (by simp[cc]) rfl λD r3 m3 z3=>?_
   rw[aI (m0+i) (by omega)] at r3
   have r3':bu D k Hf p r'.b [.int .i64 (r'.rows:Int),.int .i64 ((m0+(i+1):Nat):Int),.int .i64 (eF r'.page),si'.v]:=by
    have e:(cc p r'.b++[.int .i64 (r'.rows:Int),.int .i64 ((m0+i:Nat):Int),.int .i64 (eF r'.page),si'.v]).toArray.setIfInBounds 6 (.int .i64 ((m0+i+1:Nat):Int))=(cc p r'.b++[.int .i64 (r'.rows:Int),.int .i64 ((m0+(i+1):Nat):Int),.int .i64 (eF r'.page),si'.v]).toArray:=by
     simp[cc];omega
    rw[e] at r3;exact r3
   refine hnext hlt _ _ ⟨aI i (by omega),GC.bf m3 ⟨r3',GC.rd.ins.mod m3 (λb hb q=>GC.rd.pN (q▸hb)) λx hx b hb q=>GC.rd.nF x hx (q▸hb)⟩ λb q=>.inl q,λx hx=>?_⟩
   by_cases q:x=i
   ·subst q;exact e
   ·exact hb x (by omega)
  ·have e:¬bz (r'.ins.getD i []) ll<0:=by simpa using hc2
   have eb:below ll r'.ins=i:=ko hi hb λ_=>e
   rw[eb] at hK
   exact hK C GC
 ·have hge : i = r'.ins.length := by have : ¬ (i : Int) < (si'.n : Int) := by simpa using hc1
                                     omega
  have eb:below ll r'.ins=i:=ko hi hb λu=>by omega
  rw[eb] at hK
  exact hK C GC
set_option maxHeartbeats 2000000 in
theorem BV {K:Int->Heap->Prop}(h:dP H0 F0 O0 k p dp si rs F A s r)(ok:r.Ok)(hl:Ints .u64 A low ll)(hlb:∀ad,low.a=some ad->ll≠[]->¬F ad.block/\ad.block≠k)(hlow:(ll.length:Int)<=r.b.width->ll.length<=1000000)
  (hn:r.b.name.size<=9223372036854775807) (hlogs:s.d.logs+528482304<68719460000) (hnx:s.next+528482304<1099511610000) (h0:0<=s.next)
  (hK:∀F' si' rs' A' r',dP H0 F0 O0 k p dp si' rs' F' A' (r.bS s ll).1 r'->r'.Ok->(r'=(r.bS s ll).2.1\/r'.b=(r.bS s ll).2.1.b/\r'.b.ready≠0)->K (r.bS s ll).2.2 A'):Fw.sp (aD k) low A K:=by
 refine Fw.of ?_
 unfold Fw.vc
 simp only[aq,aD]
 obtain⟨rm1,rm2⟩:=cN r.b
 unfold RR.bS at hK
 refine lK h.rd.row ?_
 refine ae (λhc=>?_) (λhc=>?_)
 ·have e0:r.b.ready≠0:=by simpa using hc
  rw[if_pos e0] at hK
  exact hK F si rs A r h ok (.inl rfl)
 have e0:¬r.b.ready≠0:=by simpa using hc
 rw[if_neg e0] at hK
 obtain⟨hw0,_⟩:=Rb.tO e0
 have hln:=hl.len
 refine aj.ld (c:=aa .i64) (i:=2) (x:=r.b.width) h.rd.row (bu.get 2 _ rfl) ?_
 refine ae (λhc=>?_) (λhc=>?_)
 ·have e1:(ll.length:Int)>r.b.width:=by rw[<-hln];simpa using hc
  rw[if_pos e1] at hK
  exact hK F si rs A r h ok (.inl rfl)
 have e1:¬(ll.length:Int)>r.b.width:=by rw[<-hln];simpa using hc
 rw[if_neg e1] at hK
 have hlow:=hlow (by omega)
 refine aj.ld (c:=aa .i64) (i:=2) (x:=r.b.width) h.rd.row (bu.get 2 _ rfl) ?_
 refine fW ?_
 refine aj.ld (c:=aa .i64) (i:=5) (x:=(r.rows:Int)) h.rd.row (bu.tail (j:=0) rfl) ?_
 rw[rm1]
 have hroom:=ok.room
 have hrow:=ok.rows
 refine oP ⟨hroom,rm2⟩ hrow ?_
 have hNle:=df (n:=r.rows) hroom
 have hlow2:∀{B:Heap} {s':Pl} {r':RR} {F':Nat->Prop} {si':Sl} {rs':List Sl},dP A F (iV k si rs) k p dp si' rs' F' B s' r'->Ints .u64 B low ll:=λ{B s' r' F' si' rs'} G=>by
  by_cases hne:ll=[]
  ·subst hne;exact⟨hl.len,λi v hv=>by simp at hv⟩
  ·exact hl.mod G.mod λad ha q=>by
    obtain⟨q1,q2⟩:=hlb ad ha hne
    rcases q with q|q
    ·exact q1 q
    ·exact q2 q
 have hfind:r.find s ll=RR.cJ ll (az r.rows r.b.room) 0 (az r.rows r.b.room) s r:=rfl
 generalize hN:az r.rows r.b.room=N at*
 refine ay N (λm z B=>∃(i j:Nat) (s':Pl) (r':RR) (F':Nat->Prop) (si':Sl) (rs':List Sl),z=((i:Int),(j:Int))/\dP A F (iV k si rs) k p dp si' rs' F' B s' r'/\r.find s ll=RR.cJ ll (N - m) i j s' r'/\i<=j/\j<=N/\j - i+m<=N/\r'.Ok/\r'.rows=r.rows/\r'.b=r.b/\r'.at_=r.at_/\s'.next<=s.next+m/\s'.d.logs<=s.d.logs+m/\0<=s'.next)
  ⟨0,N,s,r,F,si,rs,rfl,h.start,hfind,Lh _,KN _,by omega,ok,rfl,rfl,rfl,by omega,by omega,h0⟩ ?_
 rintro m _ B next hm ⟨i,j,s',r',F',si',rs',rfl,G,hf,hij,hjN,hmN,ok',hr1,hb1,ha1,hnx',hlg',h0'⟩ hnext
 simp only
 refine ae (λhc=>?_) (λhc=>?_)
 ·have hlt : i < j := by have : (i : Int) < (j : Int) := by simpa using hc
                         omega
  have hmid:=uw (i:=i) (j:=j) (by omega)
  have hfm:N - m=(N - (m+1))+1:=by omega
  rw[hfm] at hf
  unfold RR.cJ at hf
  rw[if_pos hlt] at hf
  have hmidN:(i+j)/2<N:=by omega
  have hpl:=gX (j:=(i+j)/2) (n:=r'.rows) ok'.room (by rw[hr1,hb1,hN];exact hmidN)
  have hldb:=RR.oZ (r:=r') (s:=s') (j:=(i+j)/2) h0' (by omega)
  have hmid2:KG.wrap (LP (KG.wrap ((i:Int)+(j:Int))) (2:Int))=(((i+j)/2:Nat):Int):=by
   have e1:KG.wrap ((i:Int)+(j:Int))=((i+j:Nat):Int):=by rw[wrap64 (by omega) (by omega)];omega
   have e2:LP ((i+j:Nat):Int) (2:Int)=(((i+j)/2:Nat):Int):=rfl
   rw[e1,e2,wrap64 (by omega) (by omega)]
  rw[hmid2]
  refine qi G ok' (by rw[hb1];exact hw0) (by omega) (by omega) (by rw[hb1];exact hn) (by omega) (by omega) h0' λF1 si1 rs1 A1 B1 hz=>?_
  obtain⟨k1,k2,k3,k4,_,k6⟩:=RR.dY (s:=s') (j:=(i+j)/2) ok'
  have kbad:=RR.qU (s:=s') (r:=r') (j:=(i+j)/2)
  have hnxt:0<=(r'.load s' ((i+j)/2)).1.next:=by
   have:=B1.ag.wf.tick;omega
  generalize (r'.load s' ((i+j)/2)).1=s1 at*
  generalize (r'.load s' ((i+j)/2)).2.1=r1 at*
  generalize (r'.load s' ((i+j)/2)).2.2=e2 at*
  refine ae (λhc=>?_) (λhc=>?_)
  ·have e3:e2≠0:=by simpa using hc
   rw[if_pos e3] at hf
   rw[hf,if_pos e3] at hK
   exact hK F1 si1 rs1 A1 r1 (h.trans B1) k1 (.inl rfl)
  have e3:¬e2≠0:=by simpa using hc
  rw[if_neg e3] at hf
  obtain⟨k7,k8⟩:=k6 (by omega)
  have hlen:=k1.page _ k8
  rw[k7,k2,hb1,hr1] at hlen
  rw[hb1,hr1] at hpl
  have hpos:0<r1.ins.length:=by rw[hlen];omega
  have hil:r1.ins.length<=504:=by rw[hlen];omega
  have sin:=B1.rd.ins.n
  refine aj.ld (c:=av) (i:=8) (x:=si1) B1.rd.row (bu.tail (j:=3) rfl) ?_
  refine aj.ld (c:=av) (i:=8) (x:=si1) B1.rd.row (bu.tail (j:=3) rfl) ?_
  have hlast:KG.wrap ((si1.n:Int) - 1)=((r1.ins.length - 1:Nat):Int):=by
   rw[sin,wrap64 (by omega) (by omega)];omega
  rw[hlast]
  refine B1.rd.ins.rows.ld (by omega) λad x ha hx=>?_
  have hcol:=k1.cols _ (Lt (show r1.ins.length - 1<r1.ins.length by omega))
  refine lC hx (hlow2 B1) (by omega) ?_
  have el:jU r1.ins=r1.ins[r1.ins.length - 1]:=tS (by omega)
  rw[<-el]
  refine ae (λhc=>?_) (λhc=>?_)
  ·have e4:bz (jU r1.ins) ll<0:=by simpa using hc
   rw[if_pos e4] at hf
   refine hnext (by omega) _ _ ⟨(i+j)/2+1,j,s1,r1,F1,si1,rs1,by rw[aI _ (by omega)],B1,hf,by omega,hjN,by omega,k1,by rw[k2];exact hr1,by rw[k7];exact hb1,by rw[k3];exact ha1,by omega,by omega,hnxt⟩
  ·have e4:¬bz (jU r1.ins) ll<0:=by simpa using hc
   rw[if_neg e4] at hf
   exact hnext (by omega) _ _ ⟨i,(i+j)/2,s1,r1,F1,si1,rs1,rfl,B1,hf,by omega,by omega,by omega,k1,by rw[k2];exact hr1,by rw[k7];exact hb1,by rw[k3];exact ha1,by omega,by omega,hnxt⟩
 ·have hge : ¬ i < j := by have : ¬ (i : Int) < (j : Int) := by simpa using hc
                           omega
  have hf2:r.find s ll=(s',r',i,0):=by
   rw[hf]
   cases N - m with
   |zero=>rfl
   |succ f=>unfold RR.cJ;rw[if_neg hge]
  rw[hf2,if_neg (by simp)] at hK
  unfold RR.goto at hK
  simp only at hK
  rw[hr1,hb1,hN] at hK
  refine aj.ld (c:=aa .i64) (i:=5) (x:=(r'.rows:Int)) G.rd.row (bu.tail (j:=0) rfl) ?_
  refine aj.st G.rd.row (i:=6) (by simp[cc]) rfl λB2 r2 m2 z2=>?_
  have r2':bu B2 k Hf p r'.b [.int .i64 (r'.rows:Int),.int .i64 (r'.rows:Int),.int .i64 (eF r'.page),si'.v]:=by
   have e:(cc p r'.b++[.int .i64 (r'.rows:Int),.int .i64 (r'.at_:Int),.int .i64 (eF r'.page),si'.v]).toArray.setIfInBounds 6 (.int .i64 (r'.rows:Int))=(cc p r'.b++[.int .i64 (r'.rows:Int),.int .i64 (r'.rows:Int),.int .i64 (eF r'.page),si'.v]).toArray:=by
    simp[cc]
   rw[e] at r2;exact r2
  have G2:dP A F (iV k si rs) k p dp si' rs' F' B2 s' {r' with at_:=r'.rows}:=G.bf m2 ⟨r2',G.rd.ins.mod m2 (λb hb q=>G.rd.pN (q▸hb)) λx hx b hb q=>G.rd.nF x hx (q▸hb)⟩ λb q=>.inl q
  have ok2:=ok'.HC (KN r'.rows)
  refine aj.ld (c:=aa .i64) (i:=5) (x:=(r'.rows:Int)) G2.rd.row (bu.tail (j:=0) rfl) ?_
  rw[hr1]
  refine oP ⟨hroom,rm2⟩ hrow ?_
  rw[hN]
  refine ae (λhc=>?_) (λhc=>?_)
  ·have hiN : i < N := by have : (i : Int) < (N : Int) := by simpa using hc
                          omega
   rw[if_neg (by omega)] at hK
   have hpl:=gX (j:=i) (n:=r'.rows) ok'.room (by rw[hr1,hb1,hN];exact hiN)
   refine qi G2 ok2 (by show r'.b.wrong=0;rw[hb1];exact hw0) (by show i*r'.b.room<=r'.rows;omega) (by omega) (by show r'.b.name.size<=_;rw[hb1];exact hn) (by omega) (by omega) h0' λF1 si1 rs1 A1 B1 hz=>?_
   have hlc:({r' with at_:=r'.rows}:RR).load s' i=((r'.load s' i).1,{(r'.load s' i).2.1 with at_:=r'.rows},(r'.load s' i).2.2):=by
    unfold RR.load RR.fits
    simp only
    split
    ·rfl
    ·split
     ·rfl
     ·split<;>rfl
   obtain⟨k1,k2,k3,k4,_,k6⟩:=RR.dY (s:=s') (j:=i) ok'
   have kbad:=RR.qU (s:=s') (r:=r') (j:=i)
   have k1':({(r'.load s' i).2.1 with at_:=r'.rows}:RR).Ok:=k1.HC (by rw[k2];exact KN _)
   rw[hlc] at B1 ⊢
   rcases hX:r'.load s' i with ⟨s1,r1,e2⟩
   simp only[hX] at B1 hK k1 k2 k3 k4 k6 kbad k1' ⊢
   refine ae (λhc=>?_) (λhc=>?_)
   ·have e3:e2≠0:=by simpa using hc
    rw[if_pos e3] at hK
    refine hK F1 si1 rs1 A1 _ (h.trans B1) k1' (.inr ⟨rfl,?_⟩)
    show r1.b.ready≠0
    have:=kbad e3
    unfold Rb.ready
    rw[if_pos (by rw[this];exact e3),this]
    exact e3
   have e3:¬e2≠0:=by simpa using hc
   rw[if_neg e3] at hK
   obtain⟨k7,k8⟩:=k6 (by omega)
   have hlen:=k1.page _ k8
   rw[k7,k2,hb1,hr1] at hlen
   rw[hb1,hr1] at hpl
   have hjr:(i:Int)*(r.b.room:Int)=((i*r.b.room:Nat):Int):=by simp
   have hw1:KG.wrap ((i:Int)*(r.b.room:Int))=((i*r.b.room:Nat):Int):=by
    rw[hjr];exact wrap64 (by omega) (by omega)
   rw[hw1]
   refine aj.st B1.rd.row (i:=6) (by simp[cc]) rfl λA3 r3 m3 z3=>?_
   have r3':bu A3 k Hf p r1.b [.int .i64 (r1.rows:Int),.int .i64 ((i*r.b.room:Nat):Int),.int .i64 (eF r1.page),si1.v]:=by
    have e:(cc p r1.b++[.int .i64 (r1.rows:Int),.int .i64 (r'.rows:Int),.int .i64 (eF r1.page),si1.v]).toArray.setIfInBounds 6 (.int .i64 ((i*r.b.room:Nat):Int))=(cc p r1.b++[.int .i64 (r1.rows:Int),.int .i64 ((i*r.b.room:Nat):Int),.int .i64 (eF r1.page),si1.v]).toArray:=by
     simp[cc]
    rw[e] at r3;exact r3
   have G3:dP A F (iV k si rs) k p dp si1 rs1 F1 A3 s1 {r1 with at_:=i*r.b.room}:=B1.bf m3 ⟨r3',B1.rd.ins.mod m3 (λb hb q=>B1.rd.pN (q▸hb)) λx hx b hb q=>B1.rd.nF x hx (q▸hb)⟩ λb q=>.inl q
   refine CU (m0:=i*r.b.room) G3 hl hlb k1.cols (by show r1.ins.length<=_;omega) rfl (by omega) λB4 G4=>?_
   have hbl:below ll r1.ins<=r1.ins.length:=by unfold below;exact(List.takeWhile_sublist _).length_le
   refine hK F1 si1 rs1 B4 _ (h.trans G4) (k1.HC (m:=i*r.b.room+below ll r1.ins) (by rw[k2,hr1];omega)) (.inl rfl)
  ·have hiN : i = N := by have : ¬ (i : Int) < (N : Int) := by simpa using hc
                          omega
   rw[if_pos hiN] at hK
   rw[hr1] at G2 ok2
   exact hK F' si' rs' B2 _ (h.trans G2) ok2 (.inl (by rw[hb1]))
end
end Go.Proofs.YtdpdmbceakdlmaaGreatDoor
namespace Go.Proofs.YtdpdmbceakdlmaaGreatDoor
theorem mL {α:Type}{l:List α}{i:Nat}{u:α->α}{x:α}(h:x∈l.modify i u):(∃y,l[i]?=some y/\x=u y)\/x∈l:=by
 obtain⟨j,hj⟩:=Rm h
 rw[NZ] at hj
 obtain⟨y,h1,h2⟩:=Option.map_eq_some_iff.1 hj
 by_cases q:i=j
 ·rw[if_pos q] at h2
  exact .inl ⟨y,q▸h1,h2.symm⟩
 ·rw[if_neg q] at h2
  exact .inr (h2▸KH h1)
def Dk.AllP (Ψ:List UInt8->Prop)(s:Dk):Prop:=∀f∈s.files,∀pg∈f.au,Ψ pg.1
section
variable {Ψ:List UInt8->Prop}{s:Dk}
theorem CZ {l:List Pg}{w:Wr}(hw:w.page<=l.length){x:Pg}(hx:x∈dq l w):x∈l\/x=w.b:=by
 unfold dq at hx
 rcases Nat.lt_or_ge w.page l.length with h|h
 ·have e:w.page+1 - l.length=0:=by omega
  rw[e,List.replicate_zero,List.append_nil] at hx
  exact List.mem_or_eq_of_mem_set hx
 ·have e:w.page+1 - l.length=1:=by omega
  rw[e] at hx
  have e2:w.page=l.length:=by omega
  rw[e2,List.set_append_right _ _ (KN _),Nat.sub_self] at hx
  simpa using hx
theorem Dk.AllP.DR {t:Dk}(h:s.AllP Ψ)(e:t.files=s.files):t.AllP Ψ:=λf hf=>h f (e▸hf)
theorem Dk.AllP.step {g:Dk->Dk}(h:s.AllP Ψ)(hg:∀t:Dk,t.files=s.files->(g t).AllP Ψ):(s.step g).1.AllP Ψ:=by
 unfold Dk.step
 split
 ·exact hg _ s.bc
 ·exact h.DR s.bc
theorem Dk.AllP.create (h:s.AllP Ψ)(n:ByteArray):(s.create n).1.AllP Ψ:=by
 unfold Dk.create
 split
 ·exact h
 split
 ·exact h
 split
 ·exact h
 split
 ·exact h
 refine h.step λt ht f hf=>?_
 simp only at hf
 rw[ht] at hf
 rcases KW.1 hf with q|q
 ·exact h f q
 ·rw[LI.1 q]
  intro pg hp
  exact absurd hp (by simp[Fl.au])
theorem Dk.pV {i:Nat}{n:ByteArray}(h:s.idx n=some i):s.files[i]?=some (s.file i):=by
 obtain⟨f,h1,_⟩:=kL h
 rw[h1];simp[Dk.file,Lo,h1]
theorem Dk.AllP.write (h:s.AllP Ψ){n:ByteArray}{g:Int}{b:List UInt8}(hb:Ψ b):(s.write n g b).1.AllP Ψ:=by
 unfold Dk.write
 split
 ·exact h
 split
 ·rename_i hl
  split
  ·exact h
  ·rename_i i hi
   split
   ·exact h
   ·rename_i hg
    split
    ·exact h
    refine h.step λt ht f hf=>?_
    have hfi:=s.pV hi
    have e:((t.ff i ⟨t.next,g.toNat,⟨b,hl⟩⟩).gk (max t.most (t.ff i ⟨t.next,g.toNat,⟨b,hl⟩⟩).used)).files=s.files.modify i (λf=>{f with log:=f.log++[⟨t.next,g.toNat,⟨b,hl⟩⟩]}):=by
     show t.files.modify i _=_
     rw[ht]
    rw[e] at hf
    rcases mL hf with ⟨y,hy,he⟩|q
    ·have hy':y=s.file i:=K1 (hy.symm.trans hfi)
     subst hy'
     subst he
     intro pg hp
     have e2:Fl.au {s.file i with log:=(s.file i).log++[⟨t.next,g.toNat,⟨b,hl⟩⟩]}=dq (s.file i).au ⟨t.next,g.toNat,⟨b,hl⟩⟩:=by
      unfold Fl.au;rw[List.foldl_append];rfl
     rw[e2] at hp
     rcases CZ (by show g.toNat<=_;omega) hp with u|u
     ·exact h _ (KH hfi) pg u
     ·rw[u];exact hb
    ·exact h f q
 ·exact h
theorem Dk.AllP.sync (h:s.AllP Ψ)(n:ByteArray):(s.sync n).1.AllP Ψ:=by
 unfold Dk.sync
 split
 ·exact h
 split
 ·exact h
 ·rename_i i hi
  refine h.step λt ht f hf=>?_
  have e:(t.yI i λf=>{f with synced:=f.au,log:=[]}).files=s.files.modify i (λf=>{f with synced:=f.au,log:=[]}):=by
   show t.files.modify i _=_
   rw[ht]
  rw[e] at hf
  rcases mL hf with ⟨y,hy,he⟩|q
  ·have hy':y=s.file i:=K1 (hy.symm.trans (s.pV hi))
   subst hy'
   subst he
   exact λpg hp=>h (s.file i) (KH (s.pV hi)) pg hp
  ·exact h f q
theorem Dk.AllP.read (h:s.AllP Ψ){n:ByteArray}{g:Int}(e:(s.read n g).2=0):Ψ (s.read n g).1:=by
 have ho:∀i,(s.open n).1=some i->s.idx n=some i:=λi q=>by
  unfold Dk.open at q
  split at q
  ·cases q
  ·split at q
   ·rename_i j hj;cases q;exact hj
   ·cases q
 have hz:(s.open n).1=none->(s.open n).2≠0:=λq=>by
  unfold Dk.open at q ⊢
  split
  ·decide
  ·rename_i w;rw[if_neg w] at q
   split
   ·rename_i j hj;rw[hj] at q;cases q
   ·decide
 unfold Dk.read at e ⊢
 revert ho hz
 generalize s.open n=o at e ⊢
 intro ho hz
 obtain⟨o,x⟩:=o
 cases o with
 |none=>exact absurd e (hz rfl)
 |some i=>
   have hi:=s.pV (ho i rfl)
   simp only at e ⊢
   split
   ·rename_i q;rw[if_pos q] at e;exact absurd e (by decide)
   ·rename_i q
    rw[if_neg q] at e
    split
    ·rename_i pg hp;exact h _ (KH hi) pg (KH hp)
    ·rename_i hp;rw[hp] at e;exact absurd e (by decide)
end
def Dk.Has (n:ByteArray)(s:Dk):Prop:=s.down=true\/(s.idx n).isSome=true
theorem Dk.mG {s:Dk}{n:ByteArray}:(s.idx n).isSome=true↔∃f∈s.files,f.name.toList=n.toList:=by
 unfold Dk.idx
 rw[List.findIdx?_isSome,List.any_eq_true]
 simp
theorem Dk.vD {n:ByteArray}{s:Dk}{g:Dk->Dk}(h:∃f∈s.files,f.name.toList=n.toList)(hd:s.down=false)(hg:∀t:Dk,t.files=s.files->∀f∈s.files,∃f'∈(g t).files,f'.name=f.name):(s.step g).1.Has n:=by
 have hc:=Dk.vu hd
 unfold Dk.step
 by_cases q:s.change.2=0
 ·rw[if_pos q]
  obtain⟨f,hf,he⟩:=h
  obtain⟨f',hf',he'⟩:=hg _ s.bc f hf
  exact .inr (Dk.mG.2 ⟨f',hf',by rw[he'];exact he⟩)
 ·rw[if_neg q]
  exact .inl (by rw[hc];simpa using q)
theorem Dk.Has.up {n:ByteArray}{s:Dk}(h:s.Has n)(hd:¬s.down=true):∃f∈s.files,f.name.toList=n.toList:=Dk.mG.1 (h.resolve_left hd)
theorem nP {l t:List Fl}{i:Nat}{u:Fl->Fl}(hu:∀f,(u f).name=f.name)(e:t=l.modify i u):∀f∈l,∃f'∈t,f'.name=f.name:=λf hf=>by
 obtain⟨j,hj⟩:=Rm hf
 subst e
 refine⟨if i=j then u f else f,KH (i:=j) ?_,?_⟩
 ·rw[NZ,hj];rfl
 ·split
  ·exact hu f
  ·rfl
theorem Dk.Has.write {n:ByteArray}{s:Dk}(h:s.Has n)(m:ByteArray)(g:Int)(b:List UInt8):(s.write m g b).1.Has n:=by
 unfold Dk.write
 split
 ·exact h
 rename_i hd
 split
 ·split
  ·exact h
  ·rename_i i hi
   split
   ·exact h
   ·split
    ·exact h
    refine Dk.vD (h.up hd) (by simpa using hd) λt ht=>?_
    exact nP (i:=i) (u:=λf=>{f with log:=f.log++[⟨t.next,g.toNat,⟨b,by assumption⟩⟩]}) (λf=>rfl) (by show t.files.modify i _=_;rw[ht])
 ·exact h
theorem Dk.Has.sync {n:ByteArray}{s:Dk}(h:s.Has n)(m:ByteArray):(s.sync m).1.Has n:=by
 unfold Dk.sync
 split
 ·exact h
 rename_i hd
 split
 ·exact h
 ·rename_i i hi
  refine Dk.vD (h.up hd) (by simpa using hd) λt ht=>?_
  exact nP (i:=i) (u:=λf=>{f with synced:=f.au,log:=[]}) (λf=>rfl) (by show t.files.modify i _=_;rw[ht])
theorem Dk.Has.create {n:ByteArray}{s:Dk}(e:(s.create n).2=0):(s.create n).1.Has n:=by
 unfold Dk.create at e ⊢
 by_cases hd:s.down=true
 ·rw[if_pos hd] at e;exact absurd e (by simp)
 rw[if_neg hd] at e ⊢
 by_cases h2:named n=false
 ·rw[if_pos h2] at e;exact absurd e (by simp)
 rw[if_neg h2] at e ⊢
 by_cases h3:(s.idx n).isSome=true
 ·rw[if_pos h3] at e;exact absurd e (by simp)
 rw[if_neg h3] at e ⊢
 by_cases h4:s.files.length=4096
 ·rw[if_pos h4] at e;exact absurd e (by simp)
 rw[if_neg h4] at e ⊢
 unfold Dk.step at e ⊢
 by_cases q:s.change.2=0
 ·rw[if_pos q]
  exact .inr (Dk.mG.2 ⟨⟨n,[],[]⟩,by simp,rfl⟩)
 ·rw[if_neg q] at e;exact absurd e q
theorem Dk.Has.Az {n:ByteArray}{s:Dk}(h:s.Has n):(s.create n).2≠0:=by
 unfold Dk.create
 split
 ·simp
 ·rename_i hd
  split
  ·simp
  ·rw[if_pos (h.resolve_left hd)];simp
structure BP (D:Dk->Prop)(Ψ:List UInt8->Prop):Prop where
 write:∀{s:Dk} {n:ByteArray} {g:Int} {b:List UInt8},D s->Ψ b->D (s.write n g b).1
 sync:∀{s:Dk} (n:ByteArray),D s->D (s.sync n).1
 read:∀{s:Dk} {n:ByteArray} {g:Int},D s->(s.read n g).2=0->Ψ (s.read n g).1
theorem Dk.CK (Ψ:List UInt8->Prop):BP (Dk.AllP Ψ) Ψ:=⟨λh hb=>h.write hb,λn h=>h.sync n,λh e=>h.read e⟩
theorem Dk.wg (Ψ:List UInt8->Prop)(n:ByteArray):BP (λs=>s.AllP Ψ/\s.Has n) Ψ:=
 ⟨λh hb=>⟨h.1.write hb,h.2.write ..⟩,λn h=>⟨h.1.sync n,h.2.sync n⟩,λh e=>h.1.read e⟩
def uj (Φ:UInt8->List UInt8->Prop)(pg:List UInt8):Prop:=∀k b,ez pg=some (k,b)->Φ k b
theorem uj.Ja {Φ:UInt8->List UInt8->Prop}{k:UInt8}{b:List UInt8}(h:Φ k b)(hl:b.length<=504):uj Φ (bA k b):=λk' b' e=>by
 rw[ke hl] at e
 cases e;exact h
structure Pl.AllP (Φ:UInt8->List UInt8->Prop)(D:Dk->Prop)(s:Pl):Prop where
 fs:∀f∈s.fs,Φ f.kind f.b
 ba:D s.d
section
variable {Φ:UInt8->List UInt8->Prop}{D:Dk->Prop}{s:Pl}
theorem Pl.AllP.frame (h:s.AllP Φ D)(h0:Φ 0 [])(i:Nat):Φ (s.frame i).kind (s.frame i).b:=by
 unfold Pl.frame
 cases e:s.fs[i]? with
 |none=>simp[Lo,e];exact h0
 |some f=>simp[Lo,e];exact h.fs f (KH e)
theorem Pl.AllP.aZ (h:s.AllP Φ D){d:Dk}(hd:D d):(s.aZ d).AllP Φ D:=⟨h.fs,hd⟩
theorem Pl.AllP.met (h:s.AllP Φ D)(e:Int):(s.met e).AllP Φ D:=by
 unfold Pl.met;split
 ·exact⟨h.fs,h.ba⟩
 ·exact h
theorem Pl.AllP.out {r:Pl×Int}(h:r.1.AllP Φ D):(Pl.out r).1.AllP Φ D:=h.met r.2
theorem Pl.AllP.bf (h:s.AllP Φ D)(i:Nat){u:Fr->Fr}(hu:∀f,Φ f.kind f.b->Φ (u f).kind (u f).b):(s.bf i u).AllP Φ D:=by
 refine⟨λf hf=>?_,h.ba⟩
 rcases mL hf with ⟨y,q,e⟩|q
 ·rw[e];exact hu y (h.fs y (KH q))
 ·exact h.fs f q
theorem Pl.AllP.drop (h:s.AllP Φ D)(i:Nat):(s.drop i).AllP Φ D:=⟨λf hf=>h.fs f (List.mem_of_mem_eraseIdx hf),h.ba⟩
structure Fits (Φ:UInt8->List UInt8->Prop)(D:Dk->Prop):Prop where
 zero:Φ 0 []
 room:∀k b,Φ k b->b.length<=504
 law:BP D (uj Φ)
theorem Pl.AllP.put (h:s.AllP Φ D)(hf:Fits Φ D)(i:Nat):(s.put i).1.AllP Φ D:=by
 have hs:uj Φ (s.frame i).dg:=uj.Ja (h.frame hf.zero i) (hf.room _ _ (h.frame hf.zero i))
 have hd:=hf.law.write (n:=(s.frame i).name) (g:=(s.frame i).page) h.ba hs
 unfold Pl.put
 split
 ·exact(h.aZ hd).bf i λf q=>q
 ·exact h.aZ hd
theorem Pl.AllP.room (h:s.AllP Φ D)(hf:Fits Φ D):s.room.1.AllP Φ D:=by
 unfold Pl.room
 split
 ·exact h
 split
 ·exact h
 ·rename_i i _
  split
  ·split
   ·exact(h.put hf i).drop i
   ·exact h.put hf i
  ·exact h.drop i
theorem Pl.AllP.dE (h:s.AllP Φ D)(i:Nat):(s.dE i).AllP Φ D:=by
 have:=h.bf i (u:=Fr.aR s.next) λf q=>q
 exact⟨this.fs,this.ba⟩
theorem Pl.AllP.take (h:s.AllP Φ D){f:Fr}(hf:Φ f.kind f.b):(s.take f).AllP Φ D:=by
 show ((s.add f).dE s.fs.length).AllP Φ D
 refine Pl.AllP.dE (s:=s.add f) ⟨λg hg=>?_,h.ba⟩ _
 rcases KW.1 hg with q|q
 ·exact h.fs g q
 ·rw[LI.1 q];exact hf
theorem Pl.AllP.load (h:s.AllP Φ D)(hf:Fits Φ D)(n:ByteArray)(g:Int):(s.load n g).1.AllP Φ D/\∀f,(s.load n g).2.1=some f->Φ f.kind f.b:=by
 unfold Pl.load
 split
 ·exact⟨h,λf q=>by cases q⟩
 split
 ·exact⟨h,λf q=>by cases q⟩
 split
 ·exact⟨h.room hf,λf q=>by cases q⟩
 split
 ·exact⟨h.room hf,λf q=>by cases q⟩
 ·rename_i hr
  have hp:=hf.law.read (h.room hf).ba (Mz hr)
  split
  ·exact⟨h.room hf,λf q=>by cases q⟩
  ·rename_i k b ho
   exact⟨h.room hf,λf q=>by cases q;exact hp k b ho⟩
theorem Pl.AllP.aR (h:s.AllP Φ D)(hf:Fits Φ D)(n:ByteArray)(g:Int):(s.aR n g).1.AllP Φ D:=by
 unfold Pl.aR
 split
 ·exact h
 split
 ·exact h.dE _
 ·obtain⟨h1,h2⟩:=h.load hf n g
  split
  ·rename_i q f e heq
   rw[heq] at h1 h2
   exact h1.take (h2 f rfl)
  ·rename_i q e heq
   rw[heq] at h1
   exact h1.met _
theorem Pl.AllP.fresh (h:s.AllP Φ D)(hf:Fits Φ D)(n:ByteArray):(s.fresh n).1.AllP Φ D:=by
 have hr:=h.room hf
 have hd:=hf.law.write (n:=n) (g:=((s.d.len n).1:Int)) hr.ba (uj.Ja hf.zero (by simp))
 unfold Pl.fresh
 split
 ·exact h
 split
 ·exact h.met _
 split
 ·exact hr.met _
 split
 ·exact(hr.aZ hd).met _
 ·exact(hr.aZ hd).take hf.zero
theorem Pl.AllP.set (h:s.AllP Φ D)(x:Int){k:UInt8}{b:List UInt8}(hb:b.length<=504->Φ k b):(s.set x k b).1.AllP Φ D:=by
 unfold Pl.set
 split
 ·exact h
 split
 ·split
  ·exact h
  ·rename_i hl
   exact h.bf _ λf _=>hb (by omega)
 ·exact h
theorem Pl.AllP.aB (h:s.AllP Φ D)(x:Int):(s.aB x).1.AllP Φ D:=by
 unfold Pl.aB
 split
 ·exact h
 split
 ·rename_i i _
  have:=h.bf i (u:=Fr.aB x (da (s.tick+1))) λf q=>q
  exact⟨this.fs,this.ba⟩
 ·exact h
theorem Pl.AllP.aH (hf:Fits Φ D)(n:ByteArray):∀(l:List Nat) {s:Pl},s.AllP Φ D->(Pl.aH n l s).1.AllP Φ D
 |[],_,h=>h
 |k::l,s,h=>by
   unfold Pl.aH
   split
   ·rename_i i _
    split
    ·split
     ·exact aH hf n l (h.put hf i)
     ·exact h.put hf i
    ·exact aH hf n l h
   ·exact aH hf n l h
theorem Pl.AllP.flush (h:s.AllP Φ D)(hf:Fits Φ D)(n:ByteArray):(s.flush n).1.AllP Φ D:=by
 unfold Pl.flush
 split
 ·exact h
 split
 ·exact Pl.AllP.out h
 have hl:=Pl.AllP.aH hf n (s.aU n) h
 split
 ·exact Pl.AllP.out hl
 ·exact Pl.AllP.out (hl.aZ (hf.law.sync n hl.ba))
theorem Pl.AllP.leave {r:Pl×Int}(h:r.1.AllP Φ D)(x:Int):(Pl.leave r x).1.AllP Φ D:=by
 unfold Pl.leave;split
 ·exact h.aB x
 ·exact h
theorem Pl.AllP.more (h:s.AllP Φ D)(hf:Fits Φ D)(n:ByteArray){k:UInt8}{b:List UInt8}(hb:k=0\/(b.length<=504->Φ k b)):(s.more n k b).1.AllP Φ D:=by
 unfold Pl.more
 split
 ·exact h.fresh hf n
 ·refine Pl.AllP.leave ?_ _
  split
  ·exact h.fresh hf n
  ·rename_i hk
   exact(h.fresh hf n).set _ (hb.resolve_left hk)
theorem Pl.AllP.JJ (h:s.AllP Φ D)(x:Int)(e:(s.get x).2.2=0):Φ (s.get x).1 (s.get x).2.1:=by
 unfold Pl.get at e ⊢
 split
 ·rename_i q;rw[if_pos q] at e;exact absurd e q
 ·rename_i q
  rw[if_neg q] at e
  cases hi:s.held x with
  |none=>simp[hi] at e
  |some i=>
    simp only
    obtain⟨f,hf,_⟩:=Pl.eU hi
    rw[Pl.cX hf]
    exact h.fs f (KH hf)
theorem Pl.AllP.look (h:s.AllP Φ D)(hf:Fits Φ D)(n:ByteArray)(g:Int):(s.look n g).1.AllP Φ D/\((s.look n g).2.2.2=0->Φ (s.look n g).2.1 (s.look n g).2.2.1):=by
 have hp:=h.aR hf n g
 unfold Pl.look
 split
 ·rename_i q;exact⟨hp,λe=>absurd e q⟩
 split
 ·rename_i q;exact⟨hp,λe=>absurd e q⟩
 ·rename_i q
  exact⟨hp.aB _,λ_=>hp.JJ _ (Mz q)⟩
theorem Pl.AllP.pl0 {d:Dk}{m:Nat}(h:D d):(pl0 d m).AllP Φ D:=⟨λf hf=>(by cases hf),h⟩
end
structure Bd (s:Pl)(x y:Nat):Prop where
 fit:s.Fit
 lo:0<=s.next
 hi:s.next<=(x:Int)
 logs:s.d.logs<=y
section
variable {s:Pl}{x y:Nat}{n:ByteArray}{w:RW}{r:RR}{W:Int}
theorem Bd.mono {x' y':Nat}(h:Bd s x y)(hx:x<=x')(hy:y<=y'):Bd s x' y':=⟨h.fit,h.lo,by have:=h.hi;omega,Lc h.logs hy⟩
theorem Pl.It {k:Int}(h0:0<=s.next)(h1:s.next<1099511627776):s.next<=(s.aR n k).1.next:=by
 unfold Pl.aR
 split
 ·exact Mc _
 ·split
  ·rw[Pl.q8 s _ h0 h1];omega
  ·rcases s.mq n k with ⟨e,he⟩|⟨e,he⟩|⟨f,he,_⟩
   ·rw[he];show _<=(s.met e).next;rw[(s.eQ e).2.2.1];omega
   ·rw[he];show _<=(s.room.1.met e).next;rw[(s.room.1.eQ e).2.2.1,s.bJ.2.1];omega
   ·rw[he];show _<=(s.room.1.take f).next;rw[Pl.lu _ _ (by rw[s.bJ.2.1];exact h0) (by rw[s.bJ.2.1];exact h1),s.bJ.2.1];omega
theorem Pl.Df (h0:0<=s.next)(h1:s.next<1099511627776):s.next<=(s.fresh n).1.next:=by
 have hr:=s.bJ.2.1
 unfold Pl.fresh
 split
 ·exact Mc _
 ·split
  ·show _<=(s.met _).next;rw[(s.eQ _).2.2.1];omega
  ·split
   ·show _<=(s.room.1.met _).next;rw[(s.room.1.eQ _).2.2.1,hr];omega
   ·split
    ·show _<=((s.room.1.aZ _).met _).next
     rw[((s.room.1.aZ _).eQ _).2.2.1]
     show _<=s.room.1.next;rw[hr];omega
    ·show _<=((s.room.1.aZ _).take _).next
     rw[Pl.lu _ _ (by show 0<=s.room.1.next;rw[hr];exact h0) (by show s.room.1.next<_;rw[hr];exact h1)]
     show _<=s.room.1.next+1;rw[hr];omega
theorem Bd.aR (h:Bd s x y)(hx:x<1000000000000)(k:Int):Bd (s.aR n k).1 (x+1) (y+1):=by
 have a:=h.lo
 have b:=h.hi
 have c:=s.jb (n:=n) (k:=k) a (by omega)
 have d:=s.It (n:=n) (k:=k) a (by omega)
 have e:=s.jf n k
 have f:=h.logs
 exact⟨h.fit.aR n k,by omega,by omega,by omega⟩
theorem Bd.fresh (h:Bd s x y)(hx:x<1000000000000):Bd (s.fresh n).1 (x+1) (y+2):=by
 have a:=h.lo
 have b:=h.hi
 have c:=s.jM (n:=n) a (by omega)
 have d:=s.Df (n:=n) a (by omega)
 have e:=s.qE n
 have f:=h.logs
 exact⟨h.fit.fresh n,by omega,by omega,by omega⟩
theorem Bd.set (h:Bd s x y)(c:Int)(k:UInt8)(b:List UInt8):Bd (s.set c k b).1 x y:=
 ⟨h.fit.set c k b,by rw[Pl.iu];exact h.lo,by rw[Pl.iu];exact h.hi,by rw[Pl.rm];exact h.logs⟩
theorem Bd.aB (h:Bd s x y)(c:Int):Bd (s.aB c).1 x y:=
 ⟨h.fit.aB c,by rw[Pl.jE];exact h.lo,by rw[Pl.jE];exact h.hi,by rw[Pl.lL];exact h.logs⟩
theorem Bd.leave {q:Pl×Int}(h:Bd q.1 x y)(c:Int):Bd (Pl.leave q c).1 x y:=by
 unfold Pl.leave
 split
 ·exact h.aB c
 ·exact h
theorem Bd.more (h:Bd s x y)(hx:x<1000000000000)(k:UInt8)(b:List UInt8):Bd (s.more n k b).1 (x+1) (y+2):=by
 have f:=h.fresh (n:=n) hx
 unfold Pl.more
 split
 ·exact f
 ·refine Bd.leave ?_ _
  split
  ·exact f
  ·exact f.set _ _ _
theorem Bd.look (h:Bd s x y)(hx:x<1000000000000)(k:Int):Bd (s.look n k).1 (x+1) (y+1):=by
 have f:=h.aR (n:=n) hx k
 unfold Pl.look
 split
 ·exact f
 ·split
  ·exact f
  ·exact f.aB _
theorem Bd.create (h:Bd s x y):Bd (s.aZ (s.d.create n).1) x y:=
 ⟨h.fit.aZ (s.d.jQ n),h.lo,h.hi,Lc (s.d.iI n) h.logs⟩
theorem Bd.out (h:Bd s x y)(hx:x<1000000000000):Bd (w.out s).1 (x+1) (y+2):=by
 have m:=h.mono (Lm x) (Nk y 2)
 unfold RW.out
 split
 ·exact m
 ·exact h.more hx _ _
theorem Bd.add (h:Bd s x y)(hx:x<1000000000000)(l:List Int):Bd (w.add s l).1 (x+1) (y+2):=by
 have m:=h.mono (Lm x) (Nk y 2)
 unfold RW.add
 split
 ·exact m
 ·split
  ·exact m
  ·split
   ·exact m
   ·split
    ·exact m
    ·exact h.out hx
theorem Bd.make (h:Bd s x y)(hx:x<1000000000000):Bd (aJ s n W).1 (x+1) (y+2):=by
 have m:=h.mono (Lm x) (Nk y 2)
 have c:=h.create (n:=n)
 unfold aJ
 split
 ·exact m
 ·split
  ·exact c.mono (Lm x) (Nk y 2)
  ·split<;>exact c.more hx _ _
theorem Bd.open (h:Bd s x y)(hx:x<1000000000000):Bd (rnOpen s n W).1 (x+1) (y+1):=by
 have m:=h.mono (Lm x) (Lm y)
 have c:=h.look (n:=n) hx 0
 unfold rnOpen
 split
 ·exact m
 ·split
  ·exact c
  ·split
   ·exact c
   ·split
    ·exact c
    ·split<;>exact c
theorem Bd.load (h:Bd s x y)(hx:x<1000000000000)(j:Nat):Bd (r.load s j).1 (x+1) (y+1):=by
 have m:=h.mono (Lm x) (Lm y)
 have c:=h.look (n:=r.b.name) hx ((j:Int)+1)
 unfold RR.load
 split
 ·exact m
 ·split
  ·exact c
  ·split<;>exact c
theorem Bd.next (h:Bd s x y)(hx:x<1000000000000):Bd (r.next s).1 (x+1) (y+1):=by
 have m:=h.mono (Lm x) (Lm y)
 have c:=h.load (r:=r) hx (r.at_/r.b.room)
 unfold RR.next
 split
 ·exact m
 ·split
  ·exact m
  ·split<;>exact c
theorem ij {n:ByteArray}:∀(l:List Nat) {s:Pl},(Pl.aH n l s).1.fs.length=s.fs.length
 |[],s=>rfl
 |k::l,s=>by
   unfold Pl.aH
   split
   ·rename_i i _
    have hk:(s.put i).1.fs.length=s.fs.length:=by simpa using congrArg List.length (s.ru i)
    split
    ·split
     ·rw[ij l];exact hk
     ·exact hk
    ·exact ij l
   ·exact ij l
theorem Bd.flush (h:Bd s x y)(hf:s.fs.length<=4096):Bd (s.flush n).1 x (y+4096):=
 ⟨h.fit.flush n,by rw[Pl.mS];exact h.lo,by rw[Pl.mS];exact h.hi,by have:=s.yb n;have:=h.logs;omega⟩
theorem Pl.ud (r:Pl×Int):(Pl.out r).1.fs.length=r.1.fs.length:=by
 show (r.1.met r.2).fs.length=_
 rw[(r.1.eQ r.2).2.1]
theorem Pl.AE (s:Pl)(n:ByteArray):(s.flush n).1.fs.length=s.fs.length:=by
 unfold Pl.flush
 split
 ·rfl
 ·split
  ·exact Pl.ud _
  ·split
   ·rw[Pl.ud];exact ij _
   ·rw[Pl.ud];exact ij _
theorem Bd.head (h:Bd s x y)(hx:x<1000000000000)(hw:(w.head s).1.fs.length<=4096):Bd (w.head s).1 (x+1) (y+4100):=by
 have f:=h.aR (n:=w.b.name) hx 0
 unfold RW.head at hw ⊢
 split
 ·exact f.mono (KN _) (by omega)
 ·rename_i h1
  rw[if_neg h1] at hw
  have g:=(f.set (s.aR w.b.name 0).2.1 2 (bL w.b.width w.rows))
  have g2:=Bd.leave (q:=(s.aR w.b.name 0).1.set (s.aR w.b.name 0).2.1 2 (bL w.b.width w.rows)) g (s.aR w.b.name 0).2.1
  split
  ·exact g2.mono (KN _) (by omega)
  ·rename_i h2
   rw[if_neg h2,Pl.AE] at hw
   exact(g2.flush (n:=w.b.name) hw).mono (KN _) (by omega)
theorem Bd.close (h:Bd s x y)(hx:x<999999999999)(hw:(w.close s).1.fs.length<=4096):Bd (w.close s).1 (x+2) (y+4200):=by
 have o:=h.out (w:=w) (by omega)
 unfold RW.close at hw ⊢
 split
 ·exact h.mono (by omega) (by omega)
 ·rename_i h1
  rw[if_neg h1] at hw
  split
  ·exact o.mono (by omega) (by omega)
  ·rename_i h2
   rw[if_neg h2] at hw
   have e:((w.out s).2.1.ends (w.out s).1).1=((w.out s).2.1.head (w.out s).1).1:=by unfold RW.ends;split<;>rfl
   rw[e] at hw ⊢
   exact(o.head (by omega) hw).mono (by omega) (by omega)
end
def Jh (W:Nat)(k:UInt8)(b:List UInt8):Prop:=b.length<=504/\(k=1->∃L,b=cz L/\iv W L)/\(k=2->∃n:Nat,b=bL W n)
def GX (k:UInt8)(b:List UInt8):Prop:=k=0/\b=[]
def Nil0 (s:Pl):Prop:=s.AllP GX (Dk.AllP (uj GX))
def JF (W:Nat)(n:ByteArray)(d:Dk):Prop:=d.AllP (uj (Jh W))/\d.Has n
def InW (W:Nat)(n:ByteArray)(s:Pl):Prop:=s.AllP (Jh W) (JF W n)
theorem GX.Jd {W:Nat}{k:UInt8}{b:List UInt8}(h:GX k b):Jh W k b:=by
 obtain⟨rfl,rfl⟩:=h
 exact⟨by simp,λe=>absurd e (by decide),λe=>absurd e (by decide)⟩
theorem G8:Fits GX (Dk.AllP (uj GX)):=⟨⟨rfl,rfl⟩,λk b h=>by rw[h.2];simp,Dk.CK _⟩
theorem sS (W:Nat)(n:ByteArray):Fits (Jh W) (JF W n):=⟨GX.Jd ⟨rfl,rfl⟩,λk b h=>h.1,Dk.wg _ _⟩
theorem Nil0.Jd {W:Nat}{n:ByteArray}{s:Pl}(h:Nil0 s)(hn:s.d.Has n):InW W n s:=
 ⟨λf hf=>(h.fs f hf).Jd,λf hf pg hp k b e=>GX.Jd (h.ba f hf pg hp k b e),hn⟩
section
variable {W V:Nat}{n:ByteArray}{s:Pl}{w:RW}{r:RR}
theorem CG {x:Int}(h:aW x≠0):0<=x/\x<=16:=by
 unfold aW bk at h
 split at h
 ·exact absurd rfl h
 ·omega
theorem Dk.Has.same {d:Dk}(h:d.Has n):(d.create n).1=d:=by
 unfold Dk.create
 split
 ·rfl
 ·rename_i hd
  split
  ·rfl
  ·rw[if_pos (h.resolve_left hd)]
theorem InW.make {x:Int}(h:InW V n s):(aJ s n x).2.1=none/\InW V n (aJ s n x).1:=by
 unfold aJ
 split
 ·exact⟨rfl,h⟩
 ·rw[if_pos h.ba.2.Az,h.ba.2.same]
  exact⟨rfl,h⟩
theorem Nil0.make {x:Int}(h:Nil0 s):((aJ s n x).2.1=none/\Nil0 (aJ s n x).1)\/∃U:Nat,x=U/\U<=16/\(aJ s n x).2.1=some (rA n x)/\InW U n (aJ s n x).1:=by
 have hd:Nil0 (s.aZ (s.d.create n).1):=⟨h.fs,h.ba.create n⟩
 have hm:Nil0 ((s.aZ (s.d.create n).1).more n 0 []).1:=hd.more G8 n (.inl rfl)
 unfold aJ
 split
 ·exact .inl ⟨rfl,h⟩
 rename_i hr
 have hx:=CG hr
 split
 ·exact .inl ⟨rfl,hd⟩
 rename_i hc
 split
 ·exact .inl ⟨rfl,hm⟩
 refine .inr ⟨x.toNat,by omega,by omega,rfl,?_⟩
 exact(hd.Jd (W:=x.toNat) (n:=n) (Dk.Has.create (Mz hc))).more (sS x.toNat n) n (.inl rfl)
structure ROK (n:ByteArray)(W:Nat)(r:RR):Prop where
 name:r.b.name=n
 width:r.b.width=W
 ok:r.Ok
 rise:iv W r.ins
theorem qF (W:Nat):iv W []:=⟨λl h=>(by cases h),λl h=>(by cases h),λi h=>(by simp at h)⟩
theorem Nil0.open {x:Int}(h:Nil0 s):(rnOpen s n x).2.1=none/\Nil0 (rnOpen s n x).1:=by
 obtain⟨l1,l2⟩:=h.look G8 n 0
 unfold rnOpen
 split
 ·exact⟨rfl,h⟩
 split
 ·exact⟨rfl,l1⟩
 rename_i q
 have hk:=(l2 (Mz q)).1
 rw[if_pos (by rintro⟨u,_⟩;rw[hk] at u;exact absurd u (by decide))]
 exact⟨rfl,l1⟩
theorem InW.open {x:Int}(h:InW V n s)(hV:V<=16):InW V n (rnOpen s n x).1/\∀r,(rnOpen s n x).2.1=some r->ROK n V r:=by
 obtain⟨l1,l2⟩:=h.look (sS V n) n 0
 have e1:InW V n (rnOpen s n x).1:=by
  unfold rnOpen
  split
  ·exact h
  split
  ·exact l1
  split
  ·exact l1
  split
  ·exact l1
  split<;>exact l1
 refine⟨e1,λr hr=>?_⟩
 obtain⟨o1,o2,o3,o4,o5⟩:=sQ hr
 have hx:x=V:=by
  unfold rnOpen at hr
  split at hr
  ·cases hr
  split at hr
  ·cases hr
  rename_i q
  split at hr
  ·cases hr
  rename_i q2
  obtain⟨u1,u2,u3⟩:=Mz q2
  obtain⟨m,hm⟩:=(l2 (Mz q)).2.2 u1
  rw[hm] at u3
  have e:(bL (V:Int) m).getD 0 0=Lf V:=rfl
  rw[e,UInt8.toNat_ofNat',Nat.mod_eq_of_lt (by omega)] at u3
  exact u3.symm
 exact⟨by rw[o2],by rw[o2];exact hx,o1,by rw[o5];exact qF V⟩
theorem ROK.load (hs:InW V n s)(h:ROK n V r)(hV:V<=16)(j:Nat):InW V n (r.load s j).1/\ROK n V (r.load s j).2.1:=by
 obtain⟨a1,a2,a3,a4,a5,a6⟩:=RR.dY (s:=s) (j:=j) h.ok
 obtain⟨l1,l2⟩:=hs.look (sS V n) r.b.name ((j:Int)+1)
 have e:InW V n (r.load s j).1/\iv V (r.load s j).2.1.ins:=by
  unfold RR.load
  split
  ·exact⟨hs,h.rise⟩
  split
  ·exact⟨l1,h.rise⟩
  rename_i q
  split
  ·rename_i hf
   unfold RR.fits at hf
   simp only[KR,beq_iff_eq] at hf
   obtain⟨L,hL,hr⟩:=(l2 (Mz q)).2.1 hf.1.1
   refine⟨l1,?_⟩
   show iv V (gR (dy _) r.b.width)
   rw[hL,oC,h.width,(mw hV hr.len hr.fit).1]
   exact hr
  ·exact⟨l1,h.rise⟩
 exact⟨e.1,a5.trans h.name,a4.trans h.width,a1,e.2⟩
theorem ROK.next (hs:InW V n s)(h:ROK n V r)(hV:V<=16):InW V n (r.next s).1/\ROK n V (r.next s).2.1:=by
 obtain⟨l1,l2⟩:=h.load hs hV (r.at_/r.b.room)
 obtain⟨a1,a2,a3,a4,a5,a6⟩:=RR.dY (s:=s) (j:=r.at_/r.b.room) h.ok
 unfold RR.next
 split
 ·exact⟨hs,h⟩
 split
 ·exact⟨hs,h⟩
 rename_i q
 split
 ·exact⟨l1,l2⟩
 refine⟨l1,l2.name,l2.width,⟨l2.ok.room,?_,l2.ok.page,l2.ok.rows,l2.ok.cols⟩,l2.rise⟩
 show r.at_+1<=(r.load s (r.at_/r.b.room)).2.1.rows
 have:=h.ok.at_
 omega
theorem ROK.cJ (hV:V<=16)(ll:List Int):∀(f i j:Nat) {s:Pl} {r:RR},InW V n s->ROK n V r->i<=j->InW V n (RR.cJ ll f i j s r).1/\ROK n V (RR.cJ ll f i j s r).2.1/\(RR.cJ ll f i j s r).2.2.1<=j/\(RR.cJ ll f i j s r).2.1.rows=r.rows/\(RR.cJ ll f i j s r).2.1.b.room=r.b.room
 |0,i,j,s,r,hs,h,hij=>⟨hs,h,hij,rfl,rfl⟩
 |f+1,i,j,s,r,hs,h,hij=>by
   obtain⟨l1,l2⟩:=h.load hs hV ((i+j)/2)
   obtain⟨a1,a2,a3,a4,a5,a6⟩:=RR.dY (s:=s) (j:=(i+j)/2) h.ok
   have er:(r.load s ((i+j)/2)).2.1.b.room=r.b.room:=by unfold Rb.room;rw[a4]
   unfold RR.cJ
   split
   ·split
    ·exact⟨l1,l2,hij,a2,er⟩
    ·split
     ·obtain⟨b1,b2,b3,b4,b5⟩:=ROK.cJ hV ll f ((i+j)/2+1) j l1 l2 (by omega)
      exact⟨b1,b2,b3,b4.trans a2,b5.trans er⟩
     ·obtain⟨b1,b2,b3,b4,b5⟩:=ROK.cJ hV ll f i ((i+j)/2) l1 l2 (by omega)
      exact⟨b1,b2,by omega,b4.trans a2,b5.trans er⟩
   ·exact⟨hs,h,hij,rfl,rfl⟩
theorem ROK.find (hs:InW V n s)(h:ROK n V r)(hV:V<=16)(ll:List Int):InW V n (r.find s ll).1/\ROK n V (r.find s ll).2.1/\(r.find s ll).2.2.1<=az (r.find s ll).2.1.rows (r.find s ll).2.1.b.room:=by
 obtain⟨b1,b2,b3,b4,b5⟩:=ROK.cJ hV ll (az r.rows r.b.room) 0 (az r.rows r.b.room) hs h (Lh _)
 refine⟨b1,b2,?_⟩
 show (RR.cJ ll _ 0 _ s r).2.2.1<=az (RR.cJ ll _ 0 _ s r).2.1.rows (RR.cJ ll _ 0 _ s r).2.1.b.room
 rw[b4,b5];exact b3
theorem ROK.goto (hs:InW V n s)(h:ROK n V r)(hV:V<=16)(ll:List Int){k:Nat}(hk:k<=az r.rows r.b.room):InW V n (r.goto s ll k).1/\ROK n V (r.goto s ll k).2.1:=by
 obtain⟨l1,l2⟩:=h.load hs hV k
 obtain⟨a1,a2,a3,a4,a5,a6⟩:=RR.dY (s:=s) (j:=k) h.ok
 unfold RR.goto
 split
 ·exact⟨hs,h.name,h.width,⟨h.ok.room,KN _,h.ok.page,h.ok.rows,h.ok.cols⟩,h.rise⟩
 rename_i hk2
 split
 ·exact⟨l1,l2⟩
 rename_i q
 obtain⟨c1,c2⟩:=a6 (Mz q)
 refine⟨l1,l2.name,l2.width,⟨l2.ok.room,?_,l2.ok.page,l2.ok.rows,l2.ok.cols⟩,l2.rise⟩
 show k*r.b.room+below ll (r.load s k).2.1.ins<=(r.load s k).2.1.rows
 have h1:=gX h.ok.room (show k<az r.rows r.b.room by omega)
 have h2:=l2.ok.page k c2
 have h3:=qB ll (r.load s k).2.1.ins
 rw[c1,a2] at h2
 rw[a2]
 omega
theorem ROK.bS (hs:InW V n s)(h:ROK n V r)(hV:V<=16)(ll:List Int):InW V n (r.bS s ll).1/\ROK n V (r.bS s ll).2.1:=by
 obtain⟨f1,f2,f3⟩:=h.find hs hV ll
 unfold RR.bS
 split
 ·exact⟨hs,h⟩
 split
 ·exact⟨hs,h⟩
 split
 ·exact⟨f1,f2⟩
 ·exact f2.goto f1 hV ll f3
theorem ROK.stop (h:ROK n V r):ROK n V r.stop:=⟨h.name,h.width,⟨h.ok.room,h.ok.at_,h.ok.page,h.ok.rows,h.ok.cols⟩,h.rise⟩
theorem ROK.down (hs:InW V n s)(h:ROK n V r)(hV:V<=16)(ll:List Int):Down ll ((r.find s ll).2.1.load (r.find s ll).1 (r.find s ll).2.2.1).2.1.ins:=by
 obtain⟨f1,f2,f3⟩:=h.find hs hV ll
 exact(f2.load f1 hV _).2.rise.down ll
structure Jz (W:Nat)(w:RW)(c:Nat)(L:List (List Int)):Prop where
 wait:w.wait=cz L
 n:w.n=L.length
 room:L.length<c
 rise:iv W L
 last:L≠[]->0<w.rows/\w.last=L.getD (L.length - 1) []
structure uQ (n:ByteArray)(W:Nat)(w:RW)(c:Nat):Prop where
 name:w.b.name=n
 width:w.b.width=W
 lay:∃L,Jz W w c L
theorem uQ.new (hV:V<=16):uQ n V (rA n V) (bC V):=⟨rfl,rfl,[],rfl,rfl,by have:=(bQ (Lh V) hV).2.1;simp;omega,qF V,λe=>absurd rfl e⟩
theorem iv.snoc {L:List (List Int)}{l:List Int}(h:iv V L)(hl:l.length=V)(hf:jW l)(hu:L≠[]->bz (L.getD (L.length - 1) []) l<0):iv V (L++[l]):=by
 refine⟨λx hx=>?_,λx hx=>?_,λi hi=>?_⟩
 ·rcases KW.1 hx with q|q
  ·exact h.len x q
  ·rw[LI.1 q];exact hl
 ·rcases KW.1 hx with q|q
  ·exact h.fit x q
  ·rw[LI.1 q];exact hf
 ·rw[List.length_append,List.length_singleton] at hi
  have e1:(L++[l]).getD i []=L.getD i []:=by
   rw[Lo,Lo,K9 (by omega)]
  rw[e1]
  by_cases q:i+1<L.length
  ·have e2:(L++[l]).getD (i+1) []=L.getD (i+1) []:=by
    rw[Lo,Lo,K9 q]
   rw[e2];exact h.up i q
  ·have q2:i+1=L.length:=by omega
   have e2:(L++[l]).getD (i+1) []=l:=by rw[q2];simp[Lo]
   rw[e2]
   have:=hu (by intro e;rw[e] at q2;simp at q2)
   have q3:L.length - 1=i:=by omega
   rwa [q3] at this
theorem uQ.out (hs:InW V n s)(h:uQ n V w (bC V+1))(hV:V<=16):InW V n (w.out s).1/\uQ n V (w.out s).2.1 (bC V)/\(w.out s).2.1.rows=w.rows:=by
 obtain⟨r1,r2,r3,r4⟩:=bQ (Lh V) hV
 obtain⟨L,hL⟩:=h.lay
 unfold RW.out
 split
 ·rename_i q
  refine⟨hs,⟨h.name,h.width,L,hL.wait,hL.n,?_,hL.rise,hL.last⟩,rfl⟩
  have:=hL.n;omega
 ·obtain⟨b1,b2,b3⟩:=w.b.jO (s.more w.b.name 1 w.wait).2
  refine⟨hs.more (sS V n) _ (.inr λhl=>⟨hl,λ_=>⟨L,hL.wait,hL.rise⟩,λe=>absurd e (by decide)⟩),⟨b3.trans h.name,b2.trans h.width,[],rfl,rfl,by simp;omega,qF V,λe=>absurd rfl e⟩,rfl⟩
theorem uQ.add {l:List Int}(hs:InW V n s)(h:uQ n V w (bC V))(hV:V<=16)(hf:jW l):InW V n (w.add s l).1/\uQ n V (w.add s l).2.1 (bC V)/\(w.add s l).2.1.rows<=w.rows+1:=by
 obtain⟨r1,r2,r3,r4⟩:=bQ (Lh V) hV
 obtain⟨L,hL⟩:=h.lay
 unfold RW.add
 split
 ·exact⟨hs,h,by simp⟩
 split
 ·exact⟨hs,h,by simp⟩
 rename_i hl
 split
 ·exact⟨hs,h,by simp⟩
 rename_i hu
 have hl':l.length=V:=by rw[h.width] at hl;omega
 have hp:∀c,L.length+1<c->uQ n V (w.push l) c:=λc hc=>by
  refine⟨h.name,h.width,L++[l],?_,?_,by simpa using hc,hL.rise.snoc hl' hf λe=>?_,λ_=>⟨Nat.succ_pos _,?_⟩⟩
  ·show w.wait++xj l=_
   rw[hL.wait];unfold cz;simp
  ·show w.n+1=_
   rw[hL.n];simp
  ·obtain⟨u1,u2⟩:=hL.last e
   rw[<-u2,<-yP]
   omega
  ·show l=_
   simp[Lo]
 have hn:=hL.n
 have hr:=hL.room
 split
 ·rename_i hc
  rw[h.width,r1] at hc
  exact⟨hs,hp _ (by omega),KN _⟩
 ·obtain⟨o1,o2,o3⟩:=(hp (bC V+1) (by omega)).out hs hV
  exact⟨o1,o2,by rw[o3];exact KN _⟩
theorem InW.head (hs:InW V n s)(h1:w.b.name=n)(h2:w.b.width=V):InW V n (w.head s).1:=by
 have p:=hs.aR (sS V n) w.b.name 0
 unfold RW.head
 split
 ·exact p
 have g:InW V n (Pl.leave ((s.aR w.b.name 0).1.set (s.aR w.b.name 0).2.1 2 (bL w.b.width w.rows)) (s.aR w.b.name 0).2.1).1:=
  Pl.AllP.leave (p.set _ λhl=>⟨hl,λe=>absurd e (by decide),λ_=>⟨w.rows,by rw[h2]⟩⟩) _
 split
 ·exact g
 ·exact g.flush (sS V n) _
theorem uQ.close (hs:InW V n s)(h:uQ n V w (bC V))(hV:V<=16):InW V n (w.close s).1/\uQ n V (w.close s).2.1 (bC V)/\(w.close s).2.1.rows=w.rows:=by
 obtain⟨L,hL⟩:=h.lay
 obtain⟨o1,o2,o3⟩:=uQ.out hs (⟨h.name,h.width,L,hL.wait,hL.n,by have:=hL.room;omega,hL.rise,hL.last⟩:uQ n V w (bC V+1)) hV
 unfold RW.close
 split
 ·exact⟨hs,h,rfl⟩
 split
 ·exact⟨o1,o2,o3⟩
 have hh:=InW.head (w:=(w.out s).2.1) o1 o2.name o2.width
 obtain⟨L2,hL2⟩:=o2.lay
 unfold RW.ends
 split
 ·obtain⟨b1,b2,b3⟩:=(w.out s).2.1.b.jO ((w.out s).2.1.head (w.out s).1).2
  exact⟨hh,⟨b3.trans o2.name,b2.trans o2.width,L2,hL2.wait,hL2.n,hL2.room,hL2.rise,hL2.last⟩,o3⟩
 ·exact⟨hh,⟨o2.name,o2.width,L2,hL2.wait,hL2.n,hL2.room,hL2.rise,hL2.last⟩,o3⟩
end
theorem Bd.cJ (ll:List Int):∀(k f i j:Nat) {s:Pl} {r:RR} {x y:Nat},j<i+2^k->x+k<1000000000000->Bd s x y->Bd (RR.cJ ll f i j s r).1 (x+k) (y+k)
 |_,0,i,j,s,r,x,y,hij,hx,h=>h.mono (by omega) (by omega)
 |0,f+1,i,j,s,r,x,y,hij,hx,h=>by
   unfold RR.cJ
   rw[if_neg (by simp at hij;omega)]
   exact h
 |k+1,f+1,i,j,s,r,x,y,hij,hx,h=>by
   have l:=h.load (r:=r) (by omega) ((i+j)/2)
   rw[Nat.pow_succ] at hij
   unfold RR.cJ
   split
   ·split
    ·exact l.mono (by omega) (by omega)
    ·split
     ·exact(Bd.cJ ll k f ((i+j)/2+1) j (by omega) (by omega) l).mono (by omega) (by omega)
     ·exact(Bd.cJ ll k f i ((i+j)/2) (by omega) (by omega) l).mono (by omega) (by omega)
   ·exact h.mono (by omega) (by omega)
theorem Bd.find {s:Pl}{r:RR}{x y:Nat}(h:Bd s x y)(hx:x<999999999000)(ok:r.Ok)(ll:List Int):Bd (r.find s ll).1 (x+30) (y+30):=by
 refine Bd.cJ ll 30 _ 0 _ ?_ (by omega) h
 have h1:=df (n:=r.rows) ok.room
 have h2:=ok.rows
 have:(2:Nat)^30=1073741824:=rfl
 omega
theorem Bd.bS {s:Pl}{r:RR}{x y:Nat}(h:Bd s x y)(hx:x<999999999000)(ok:r.Ok)(ll:List Int):Bd (r.bS s ll).1 (x+31) (y+31):=by
 have f:=h.find hx ok ll
 unfold RR.bS
 split
 ·exact h.mono (by omega) (by omega)
 split
 ·exact h.mono (by omega) (by omega)
 split
 ·exact f.mono (by omega) (by omega)
 unfold RR.goto
 have l:=f.load (r:=(r.find s ll).2.1) (by omega) (r.find s ll).2.2.1
 split
 ·exact f.mono (by omega) (by omega)
 split<;>exact l
open Go.MapKept
abbrev IT:=Int×ByteArray×Int×Int×Int
section
variable {H A:Heap}{script:Sl}{xs:List IT}{R:Bool->Heap->Prop}
end
structure CS (S:Nat->Prop)(c c':Nat->Nat)(A B:Heap):Prop where
 size:A.size<=B.size
 ak:∀b,b<A.size->¬S (c b)->c' b=c b/\B[b]?=A[b]?
theorem CS.mod {S:Nat->Prop}{c c':Nat->Nat}{A B:Heap}(h:CS S c c' A B):Mod (λb=>S (c b)) A B:=⟨h.size,λb hb hn=>(h.ak b hb hn).2⟩
def HG (p:Nat)(A:Heap)(c:Nat->Nat)(w:RW)(a:Option Addr):Prop:=∃k sw sl,a=aD k/\oQ A k p w sw sl/\∀b,fg k sw sl b->c b=3
def HQ (m:Nat)(A:Heap)(c:Nat->Nat)(w:RW)(a:Option Addr):Prop:=∃k sw sl,a=aD k/\rz A k m w sw sl/\∀b,fg k sw sl b->c b=4
def HU (p:Nat)(A:Heap)(c:Nat->Nat)(r:RR)(a:Option Addr):Prop:=∃k si rs,a=aD k/\yG A k p r si rs/\∀b,iV k si rs b->c b=5
def Ik (m:Nat)(A:Heap)(c:Nat->Nat)(r:RR)(a:Option Addr):Prop:=∃k si rs,a=aD k/\zn A k m r si rs/\∀b,iV k si rs b->c b=6
def l9 {α:Type}(P:α->Option Addr->Prop):Option α->Option Addr->Prop
 |none,a=>a=none
 |some x,a=>P x a
theorem l9.map {α:Type}{P Q:α->Option Addr->Prop}{o:Option α}{a:Option Addr}(h:l9 P o a)(f:∀x,P x a->Q x a):l9 Q o a:=by
 cases o with
 |none=>exact h
 |some x=>exact f x h
section
variable {S:Nat->Prop}{c c':Nat->Nat}{A B:Heap}{p m:Nat}{w:RW}{r:RR}{a:Option Addr}
theorem HG.cs (h:HG p A c w a)(x:CS S c c' A B)(hS:¬S 3):HG p B c' w a:=by
 obtain⟨k,sw,sl,e,h1,h2⟩:=h
 exact⟨k,sw,sl,e,h1.mod x.mod λb hb=>by show ¬S (c b);rw[h2 b hb];exact hS,λb hb=>by rw[(x.ak b (h1.lt b hb) (by rw[h2 b hb];exact hS)).1];exact h2 b hb⟩
theorem HQ.cs (h:HQ m A c w a)(x:CS S c c' A B)(hS:¬S 4):HQ m B c' w a:=by
 obtain⟨k,sw,sl,e,h1,h2⟩:=h
 exact⟨k,sw,sl,e,h1.mod x.mod λb hb=>by show ¬S (c b);rw[h2 b hb];exact hS,λb hb=>by rw[(x.ak b (h1.lt b hb) (by rw[h2 b hb];exact hS)).1];exact h2 b hb⟩
theorem HU.cs (h:HU p A c r a)(x:CS S c c' A B)(hS:¬S 5):HU p B c' r a:=by
 obtain⟨k,sw,sl,e,h1,h2⟩:=h
 exact⟨k,sw,sl,e,h1.mod x.mod λb hb=>by show ¬S (c b);rw[h2 b hb];exact hS,λb hb=>by rw[(x.ak b (h1.lt b hb) (by rw[h2 b hb];exact hS)).1];exact h2 b hb⟩
theorem Ik.cs (h:Ik m A c r a)(x:CS S c c' A B)(hS:¬S 6):Ik m B c' r a:=by
 obtain⟨k,sw,sl,e,h1,h2⟩:=h
 exact⟨k,sw,sl,e,h1.mod x.mod λb hb=>by show ¬S (c b);rw[h2 b hb];exact hS,λb hb=>by rw[(x.ak b (h1.lt b hb) (by rw[h2 b hb];exact hS)).1];exact h2 b hb⟩
end
def IG (p dp:Nat)(A:Heap)(c:Nat->Nat)(s:Pl):Prop:=∃F,aM F A p dp s/\∀b,F b->c b=1
def IV (m dm:Nat)(A:Heap)(c:Nat->Nat)(s:Pl):Prop:=∃F,aN F A m dm s/\∀b,F b->c b=2
section
variable {S:Nat->Prop}{c c':Nat->Nat}{A B:Heap}{p m dp dm:Nat}{s:Pl}
theorem IG.cs (h:IG p dp A c s)(x:CS S c c' A B)(hS:¬S 1):IG p dp B c' s:=by
 obtain⟨F,h1,h2⟩:=h
 exact⟨F,h1.ak λb hb hl=>(x.ak b hl (by rw[h2 b hb];exact hS)).2,λb hb=>by rw[(x.ak b (h1.lt b hb) (by rw[h2 b hb];exact hS)).1];exact h2 b hb⟩
theorem IV.cs (h:IV m dm A c s)(x:CS S c c' A B)(hS:¬S 2):IV m dm B c' s:=by
 obtain⟨F,h1,h2⟩:=h
 exact⟨F,h1.ak λb hb hl=>(x.ak b hl (by rw[h2 b hb];exact hS)).2,λb hb=>by rw[(x.ak b (h1.lt b hb) (by rw[h2 b hb];exact hS)).1];exact h2 b hb⟩
end
def gP (dp dm p m:Nat)(a4 a5 a6 a7:Option Addr):Array Value:=#[.pointer (aD dp),.pointer (aD dm),.pointer (aD p),.pointer (aD m),.pointer a4,.pointer a5,.pointer a6,.pointer a7]
structure Hv (H0 A:Heap)(c:Nat->Nat)(bb dp dm p m:Nat)(a4 a5 a6 a7:Option Addr):Prop where
 row:aj A bb F8 (gP dp dm p m a4 a5 a6 a7)
 cb:c bb=7
 old:∀b,b<H0.size->c b=0/\A[b]?=H0[b]?
 size:H0.size<=A.size
structure il (H0 A:Heap)(c:Nat->Nat)(bb dp dm p m:Nat)(s1 s2:Pl)(w1 w2:Option RW)(r1 r2:Option RR)(a4 a5 a6 a7:Option Addr):Prop where
 hd:Hv H0 A c bb dp dm p m a4 a5 a6 a7
 p1:IG p dp A c s1
 p2:IV m dm A c s2
 w1:l9 (HG p A c) w1 a4
 w2:l9 (HQ m A c) w2 a5
 r1:l9 (HU p A c) r1 a6
 r2:l9 (Ik m A c) r2 a7
section
variable {S:Nat->Prop}{H0 A B:Heap}{c c':Nat->Nat}{bb dp dm p m:Nat}{s1 s2 s1' s2':Pl}{w1 w2 w1' w2':Option RW}{r1 r2 r1' r2':Option RR}{a4 a5 a6 a7:Option Addr}
theorem Hv.cs (h:Hv H0 A c bb dp dm p m a4 a5 a6 a7)(x:CS S c c' A B)(h0:¬S 0)(h7:¬S 7):Hv H0 B c' bb dp dm p m a4 a5 a6 a7:=
 ⟨h.row.mod x.mod (by show ¬S (c bb);rw[h.cb];exact h7),by rw[(x.ak bb (aG h.row) (by rw[h.cb];exact h7)).1];exact h.cb,
  λb hb=>by
   obtain⟨u,v⟩:=h.old b hb
   obtain⟨u2,v2⟩:=x.ak b (LJ hb h.size) (by rw[u];exact h0)
   exact⟨u2.trans u,v2.trans v⟩,Lc h.size x.size⟩
theorem il.bf (h:il H0 A c bb dp dm p m s1 s2 w1 w2 r1 r2 a4 a5 a6 a7)(x:CS S c c' A B)(h0:¬S 0)(h7:¬S 7)
  (n1:(¬S 1/\s1'=s1)\/IG p dp B c' s1') (n2:(¬S 2/\s2'=s2)\/IV m dm B c' s2') (n3:(¬S 3/\w1'=w1)\/l9 (HG p B c') w1' a4) (n4:(¬S 4/\w2'=w2)\/l9 (HQ m B c') w2' a5)
  (n5:(¬S 5/\r1'=r1)\/l9 (HU p B c') r1' a6) (n6:(¬S 6/\r2'=r2)\/l9 (Ik m B c') r2' a7):il H0 B c' bb dp dm p m s1' s2' w1' w2' r1' r2' a4 a5 a6 a7:=by
 refine⟨h.hd.cs x h0 h7,?_,?_,?_,?_,?_,?_⟩
 ·rcases n1 with ⟨q,rfl⟩|q
  ·exact h.p1.cs x q
  ·exact q
 ·rcases n2 with ⟨q,rfl⟩|q
  ·exact h.p2.cs x q
  ·exact q
 ·rcases n3 with ⟨q,rfl⟩|q
  ·exact h.w1.map λw u=>u.cs x q
  ·exact q
 ·rcases n4 with ⟨q,rfl⟩|q
  ·exact h.w2.map λw u=>u.cs x q
  ·exact q
 ·rcases n5 with ⟨q,rfl⟩|q
  ·exact h.r1.map λw u=>u.cs x q
  ·exact q
 ·rcases n6 with ⟨q,rfl⟩|q
  ·exact h.r2.map λw u=>u.cs x q
  ·exact q
end
noncomputable def dB (c:Nat->Nat) (A:Heap) (F' O:Nat->Prop) (i j:Nat) (b:Nat):Nat:=
 open Classical in if F' b then i else if O b then j else if b<A.size then c b else 9
theorem dQ {c:Nat->Nat}{A:Heap}{F' O:Nat->Prop}{i j b:Nat}(h:F' b):dB c A F' O i j b=i:=by unfold dB;rw[if_pos h]
theorem gK {c:Nat->Nat}{A:Heap}{F' O:Nat->Prop}{i j b:Nat}(h:O b)(hn:¬F' b):dB c A F' O i j b=j:=by unfold dB;rw[if_neg hn,if_pos h]
theorem fO {S:Nat->Prop}{c:Nat->Nat}{A B:Heap}{F' O G:Nat->Prop}{i j:Nat}(hm:Mod G A B)(hG:∀b,b<A.size->G b->S (c b))(hF:∀b,F' b->b<A.size->S (c b))(hO:∀b,O b->b<A.size->S (c b)):CS S c (dB c A F' O i j) A B:=by
 refine⟨hm.size,λb hb hn=>⟨?_,hm.same b hb λq=>hn (hG b hb q)⟩⟩
 unfold dB
 rw[if_neg λq=>hn (hF b q hb),if_neg λq=>hn (hO b q hb),if_pos hb]
theorem AJ {s:Pl}{n:ByteArray}{W:Int}:((aJ s n W).2.1=none->(aJ s n W).2.2≠0)/\((aJ s n W).2.1≠none->(aJ s n W).2.2=0):=by
 unfold aJ
 split
 ·exact⟨λ_=>by simp,λq=>absurd rfl q⟩
 ·split
  ·rename_i h;exact⟨λ_=>h,λq=>absurd rfl q⟩
  ·split
   ·rename_i h;exact⟨λ_=>h,λq=>absurd rfl q⟩
   ·exact⟨λq=>(by cases q),λ_=>rfl⟩
theorem Ar {s:Pl}{n:ByteArray}{W:Int}:((rnOpen s n W).2.1=none->(rnOpen s n W).2.2≠0)/\((rnOpen s n W).2.1≠none->(rnOpen s n W).2.2=0):=by
 unfold rnOpen
 split
 ·exact⟨λ_=>by simp,λq=>absurd rfl q⟩
 ·split
  ·rename_i h;exact⟨λ_=>h,λq=>absurd rfl q⟩
  ·split
   ·exact⟨λ_=>by simp,λq=>absurd rfl q⟩
   ·split
    ·rename_i h;exact⟨λ_=>h,λq=>absurd rfl q⟩
    ·split
     ·exact⟨λq=>(by cases q),λ_=>rfl⟩
     ·exact⟨λ_=>by simp,λq=>absurd rfl q⟩
theorem y0 {k b:Nat}(h:fg k ig ig b):b=k:=by
 rcases h with q|q|q
 ·exact q
 ·exact absurd q (cV b)
 ·exact absurd q (cV b)
theorem zr {k b:Nat}(h:iV k ig [] b):b=k:=by
 rcases h with q|q|⟨x,hx,_⟩
 ·exact q
 ·exact absurd q (cV b)
 ·cases hx
section
variable {S:Nat->Prop}{H0 A B:Heap}{c c':Nat->Nat}{bb dp dm p m:Nat}{s s1 s2:Pl}{w1 w2 w1' w2':Option RW}{r1 r2 r1' r2':Option RR}{a4 a5 a6 a7 b4 b5 b6 b7:Option Addr}{x y:Nat}{K:Bool->Heap->Prop}
theorem Hv.gl (h:Hv H0 A c bb dp dm p m a4 a5 a6 a7)(hg:Gl H0):Gl A:=hg.ak (h.old _ hg.lt).2
theorem il.setRow (h:il H0 A c bb dp dm p m s1 s2 w1 w2 r1 r2 a4 a5 a6 a7)(hr:aj B bb F8 (gP dp dm p m b4 b5 b6 b7))(hm:Mod (λb=>b=bb) A B)
  (n3:l9 (HG p A c) w1' b4) (n4:l9 (HQ m A c) w2' b5) (n5:l9 (HU p A c) r1' b6) (n6:l9 (Ik m A c) r2' b7):il H0 B c bb dp dm p m s1 s2 w1' w2' r1' r2' b4 b5 b6 b7:=by
 have x:CS (λi=>i=7) c c A B:=⟨hm.size,λb hb hn=>⟨rfl,hm.same b hb λq=>hn (by rw[q];exact h.hd.cb)⟩⟩
 exact⟨⟨hr,h.hd.cb,λb hb=>by
   obtain⟨u,v⟩:=h.hd.old b hb
   exact⟨u,(x.ak b (LJ hb h.hd.size) (by rw[u];decide)).2.trans v⟩,Lc h.hd.size x.size⟩,
  h.p1.cs x (by decide),h.p2.cs x (by decide),n3.map λw u=>u.cs x (by decide),n4.map λw u=>u.cs x (by decide),n5.map λw u=>u.cs x (by decide),n6.map λw u=>u.cs x (by decide)⟩
theorem il.JK (h:il H0 A c bb dp dm p m s1 s2 w1 w2 r1 r2 a4 a5 a6 a7){P:Heap->Prop}(hP:∀D,aj D bb F8 (gP dp dm p m b4 b5 a6 a7)->Mod (λb=>b=bb) A D->P D):
  st A (La ⟨bb,0,none⟩ 4) (.pointer b4) λH3=>st H3 (La ⟨bb,0,none⟩ 5) (.pointer b5) P:=by
 refine h.hd.row.st (i:=4) (by simp[gP]) rfl λD r m1 z1=>?_
 refine r.st (i:=5) (by simp[gP]) rfl λE r2 m2 z2=>?_
 exact hP E r2 (m1.trans' m2 λb _ q=>q)
theorem il.JM (h:il H0 A c bb dp dm p m s1 s2 w1 w2 r1 r2 a4 a5 a6 a7){P:Heap->Prop}(hP:∀D,aj D bb F8 (gP dp dm p m a4 a5 b6 b7)->Mod (λb=>b=bb) A D->P D):
  st A (La ⟨bb,0,none⟩ 6) (.pointer b6) λH3=>st H3 (La ⟨bb,0,none⟩ 7) (.pointer b7) P:=by
 refine h.hd.row.st (i:=6) (by simp[gP]) rfl λD r m1 z1=>?_
 refine r.st (i:=7) (by simp[gP]) rfl λE r2 m2 z2=>?_
 exact hP E r2 (m1.trans' m2 λb _ q=>q)
theorem wz {W:Int}(h:il H0 A c bb dp dm p m s s w1 w2 r1 r2 a4 a5 a6 a7)(hg:Gl H0)(hb:Bd s x y)(hx:x<1000000)(hy:y<100000000)
  (hK0:(aJ s nmF W).2.1=none->∀B c',il H0 B c' bb dp dm p m (aJ s nmF W).1 (aJ s nmF W).1 w1 w2 r1 r2 a4 a5 a6 a7->K true B)
  (hK1:∀w,(aJ s nmF W).2.1=some w->∀B c' b4 b5,il H0 B c' bb dp dm p m (aJ s nmF W).1 (aJ s nmF W).1 (some w) (some w) r1 r2 b4 b5 a6 a7->K true B):F7.sp (aD bb) W A K:=by
 refine F7.of ?_
 unfold F7.vc
 simp only[aq,aD]
 have lo:=hb.lo;have hi:=hb.hi;have lg:=hb.logs
 obtain⟨e0,e1⟩:=AJ (s:=s) (n:=nmF) (W:=W)
 refine h.hd.row.ld (c:=ar) (i:=2) (x:=aD p) rfl ?_
 obtain⟨F1,p1,f1⟩:=h.p1
 refine vB (n:=nmF) (h.hd.gl hg) p1 (by decide) (by omega) (by omega) lo hb.fit (λF' B q1 S1 q2=>?_) (λF' B k w q1 S1 q2 q3 q4 q5=>?_)
 ·have x1:CS (λi=>i=1) c (dB c A F' (λ_=>False) 1 9) A B:=fO S1.mod (λb _ q=>f1 b q) (λb q hb=>(S1.own b q).elim (f1 b) (λu=>by omega)) (λb q=>q.elim)
  have h1:il H0 B _ bb dp dm p m (aJ s nmF W).1 s w1 w2 r1 r2 a4 a5 a6 a7:=h.bf x1 (by decide) (by decide) (.inr ⟨F',q1,λb hb=>dQ hb⟩) (.inl ⟨by decide,rfl⟩) (.inl ⟨by decide,rfl⟩) (.inl ⟨by decide,rfl⟩) (.inl ⟨by decide,rfl⟩) (.inl ⟨by decide,rfl⟩)
  refine h1.hd.row.ld (c:=ar) (i:=3) (x:=aD m) rfl ?_
  obtain⟨F2,p2,f2⟩:=h1.p2
  refine wI (n:=nmF) p2 (by decide) (by omega) (by omega) lo hb.fit (λF2' C u1 S2 u2=>?_) (λF2' C k w u1 S2 u2 u3 u4 u5=>absurd u2 (by rw[q2];simp))
  have x2:CS (λi=>i=2) (dB c A F' (λ_=>False) 1 9) (dB (dB c A F' (λ_=>False) 1 9) B F2' (λ_=>False) 2 9) B C:=fO S2.mod (λb _ q=>f2 b q) (λb q hb=>(S2.own b q).elim (f2 b) (λu=>by omega)) (λb q=>q.elim)
  have h2:il H0 C _ bb dp dm p m (aJ s nmF W).1 (aJ s nmF W).1 w1 w2 r1 r2 a4 a5 a6 a7:=h1.bf x2 (by decide) (by decide) (.inl ⟨by decide,rfl⟩) (.inr ⟨F2',u1,λb hb=>dQ hb⟩) (.inl ⟨by decide,rfl⟩) (.inl ⟨by decide,rfl⟩) (.inl ⟨by decide,rfl⟩) (.inl ⟨by decide,rfl⟩)
  have he:=e0 q2
  exact aw (by simp[he]) (aP (by simp) (hK0 q2 C _ h2))
 ·have x1:CS (λi=>i=1) c (dB c A F' (λb=>b=k) 1 3) A B:=fO S1.mod (λb _ q=>f1 b q) (λb q hb=>(S1.own b q).elim (f1 b) (λu=>by omega)) (λb q hb=>by omega)
  have h1:il H0 B _ bb dp dm p m (aJ s nmF W).1 s w1 w2 r1 r2 a4 a5 a6 a7:=h.bf x1 (by decide) (by decide) (.inr ⟨F',q1,λb hb=>dQ hb⟩) (.inl ⟨by decide,rfl⟩) (.inl ⟨by decide,rfl⟩) (.inl ⟨by decide,rfl⟩) (.inl ⟨by decide,rfl⟩) (.inl ⟨by decide,rfl⟩)
  have wp:HG p B (dB c A F' (λb=>b=k) 1 3) w (aD k):=⟨k,ig,ig,rfl,q3,λb hb=>by rw[y0 hb];exact gK rfl q5⟩
  refine h1.hd.row.ld (c:=ar) (i:=3) (x:=aD m) rfl ?_
  obtain⟨F2,p2,f2⟩:=h1.p2
  refine wI (n:=nmF) p2 (by decide) (by omega) (by omega) lo hb.fit (λF2' C u1 S2 u2=>absurd u2 (by rw[q2];simp)) (λF2' C k2 w' u1 S2 u2 u3 u4 u5=>?_)
  obtain rfl:w=w':=K1 (q2.symm.trans u2)
  have x2:CS (λi=>i=2) (dB c A F' (λb=>b=k) 1 3) (dB (dB c A F' (λb=>b=k) 1 3) B F2' (λb=>b=k2) 2 4) B C:=fO S2.mod (λb _ q=>f2 b q) (λb q hb=>(S2.own b q).elim (f2 b) (λu=>by omega)) (λb q hb=>by omega)
  have h2:il H0 C _ bb dp dm p m (aJ s nmF W).1 (aJ s nmF W).1 w1 w2 r1 r2 a4 a5 a6 a7:=h1.bf x2 (by decide) (by decide) (.inl ⟨by decide,rfl⟩) (.inr ⟨F2',u1,λb hb=>dQ hb⟩) (.inl ⟨by decide,rfl⟩) (.inl ⟨by decide,rfl⟩) (.inl ⟨by decide,rfl⟩) (.inl ⟨by decide,rfl⟩)
  have wq:HQ m C (dB (dB c A F' (λb=>b=k) 1 3) B F2' (λb=>b=k2) 2 4) w (aD k2):=⟨k2,ig,ig,rfl,u3,λb hb=>by rw[y0 hb];exact gK rfl u5⟩
  have he:=e1 (by rw[q2];simp)
  refine aP (by simp[he]) ?_
  refine h2.JK (b4:=aD k) (b5:=aD k2) λD rD mD=>?_
  exact aP (by simp) (hK1 w q2 D _ _ _ (h2.setRow rD mD (wp.cs x2 (by decide)) wq h2.r1 h2.r2))
theorem BK {W:Int}(h:il H0 A c bb dp dm p m s s w1 w2 r1 r2 a4 a5 a6 a7)(hg:Gl H0)(hb:Bd s x y)(hx:x<1000000)(hy:y<100000000)
  (hK0:(rnOpen s nmF W).2.1=none->∀B c',il H0 B c' bb dp dm p m (rnOpen s nmF W).1 (rnOpen s nmF W).1 w1 w2 r1 r2 a4 a5 a6 a7->K true B)
  (hK1:∀r,(rnOpen s nmF W).2.1=some r->∀B c' b6 b7,il H0 B c' bb dp dm p m (rnOpen s nmF W).1 (rnOpen s nmF W).1 w1 w2 (some r) (some r) a4 a5 b6 b7->K true B):Gw.sp (aD bb) W A K:=by
 refine Gw.of ?_
 unfold Gw.vc
 simp only[aq,aD]
 have lo:=hb.lo;have hi:=hb.hi;have lg:=hb.logs
 have lk:=(hb.look (n:=nmF) (by omega) 0).logs
 obtain⟨e0,e1⟩:=Ar (s:=s) (n:=nmF) (W:=W)
 refine h.hd.row.ld (c:=ar) (i:=2) (x:=aD p) rfl ?_
 obtain⟨F1,p1,f1⟩:=h.p1
 refine vd (n:=nmF) (h.hd.gl hg) p1 (by decide) (by omega) (by omega) lo (λF' B q1 S1 q2=>?_) (λF' B k w q1 S1 q2 q3 q4 q5=>?_)
 ·have x1:CS (λi=>i=1) c (dB c A F' (λ_=>False) 1 9) A B:=fO S1.mod (λb _ q=>f1 b q) (λb q hb=>(S1.own b q).elim (f1 b) (λu=>by omega)) (λb q=>q.elim)
  have h1:il H0 B _ bb dp dm p m (rnOpen s nmF W).1 s w1 w2 r1 r2 a4 a5 a6 a7:=h.bf x1 (by decide) (by decide) (.inr ⟨F',q1,λb hb=>dQ hb⟩) (.inl ⟨by decide,rfl⟩) (.inl ⟨by decide,rfl⟩) (.inl ⟨by decide,rfl⟩) (.inl ⟨by decide,rfl⟩) (.inl ⟨by decide,rfl⟩)
  refine h1.hd.row.ld (c:=ar) (i:=3) (x:=aD m) rfl ?_
  obtain⟨F2,p2,f2⟩:=h1.p2
  refine vH (n:=nmF) p2 (by decide) (by omega) (by omega) lo (by omega) (λF2' C u1 S2 u2=>?_) (λF2' C k w u1 S2 u2 u3 u4 u5=>absurd u2 (by rw[q2];simp))
  have x2:CS (λi=>i=2) (dB c A F' (λ_=>False) 1 9) (dB (dB c A F' (λ_=>False) 1 9) B F2' (λ_=>False) 2 9) B C:=fO S2.mod (λb _ q=>f2 b q) (λb q hb=>(S2.own b q).elim (f2 b) (λu=>by omega)) (λb q=>q.elim)
  have h2:il H0 C _ bb dp dm p m (rnOpen s nmF W).1 (rnOpen s nmF W).1 w1 w2 r1 r2 a4 a5 a6 a7:=h1.bf x2 (by decide) (by decide) (.inl ⟨by decide,rfl⟩) (.inr ⟨F2',u1,λb hb=>dQ hb⟩) (.inl ⟨by decide,rfl⟩) (.inl ⟨by decide,rfl⟩) (.inl ⟨by decide,rfl⟩) (.inl ⟨by decide,rfl⟩)
  have he:=e0 q2
  exact aw (by simp[he]) (aP (by simp) (hK0 q2 C _ h2))
 ·have x1:CS (λi=>i=1) c (dB c A F' (λb=>b=k) 1 5) A B:=fO S1.mod (λb _ q=>f1 b q) (λb q hb=>(S1.own b q).elim (f1 b) (λu=>by omega)) (λb q hb=>by omega)
  have h1:il H0 B _ bb dp dm p m (rnOpen s nmF W).1 s w1 w2 r1 r2 a4 a5 a6 a7:=h.bf x1 (by decide) (by decide) (.inr ⟨F',q1,λb hb=>dQ hb⟩) (.inl ⟨by decide,rfl⟩) (.inl ⟨by decide,rfl⟩) (.inl ⟨by decide,rfl⟩) (.inl ⟨by decide,rfl⟩) (.inl ⟨by decide,rfl⟩)
  have wp:HU p B (dB c A F' (λb=>b=k) 1 5) w (aD k):=⟨k,ig,[],rfl,q3,λb hb=>by rw[zr hb];exact gK rfl q5⟩
  refine h1.hd.row.ld (c:=ar) (i:=3) (x:=aD m) rfl ?_
  obtain⟨F2,p2,f2⟩:=h1.p2
  refine vH (n:=nmF) p2 (by decide) (by omega) (by omega) lo (by omega) (λF2' C u1 S2 u2=>absurd u2 (by rw[q2];simp)) (λF2' C k2 w' u1 S2 u2 u3 u4 u5=>?_)
  obtain rfl:w=w':=K1 (q2.symm.trans u2)
  have x2:CS (λi=>i=2) (dB c A F' (λb=>b=k) 1 5) (dB (dB c A F' (λb=>b=k) 1 5) B F2' (λb=>b=k2) 2 6) B C:=fO S2.mod (λb _ q=>f2 b q) (λb q hb=>(S2.own b q).elim (f2 b) (λu=>by omega)) (λb q hb=>by omega)
  have h2:il H0 C _ bb dp dm p m (rnOpen s nmF W).1 (rnOpen s nmF W).1 w1 w2 r1 r2 a4 a5 a6 a7:=h1.bf x2 (by decide) (by decide) (.inl ⟨by decide,rfl⟩) (.inr ⟨F2',u1,λb hb=>dQ hb⟩) (.inl ⟨by decide,rfl⟩) (.inl ⟨by decide,rfl⟩) (.inl ⟨by decide,rfl⟩) (.inl ⟨by decide,rfl⟩)
  have wq:Ik m C (dB (dB c A F' (λb=>b=k) 1 5) B F2' (λb=>b=k2) 2 6) w (aD k2):=⟨k2,ig,[],rfl,u3,λb hb=>by rw[zr hb];exact gK rfl u5⟩
  have wp2:=wp.cs x2 (by decide)
  have he:=e1 (by rw[q2];simp)
  refine aP (by simp[he]) ?_
  refine h2.JM (b6:=aD k) (b7:=aD k2) λD rD mD=>?_
  have h3:=h2.setRow (r1':=some w) (r2':=some w) rD mD h2.w1 h2.w2 wp2 wq
  obtain⟨k',si',rs',ek,wr,_⟩:=h3.r1
  obtain⟨k2',si2',rs2',ek2,wr2,_⟩:=h3.r2
  obtain rfl:k=k':=by cases ek;rfl
  obtain rfl:k2=k2':=by cases ek2;rfl
  refine⟨λA=>A=D,rfl,?_⟩
  refine CB.of ?_
  unfold CB.vc
  refine aw rfl ?_
  refine dv _ rfl ?_
  refine aj.ld (c:=aa .i64) (i:=6) (x:=(w.rows:Int)) wr.row (bh.tail (j:=0) rfl) ?_
  refine⟨rfl,?_⟩
  refine aj.eP (c:=aa .i64) (i:=5) (x:=(w.rows:Int)) (cs:=λ_=>_) (λA e=>by rw[e];exact wr2.row) (λA e=>bu.tail (j:=0) rfl) ?_
  exact aw (by simp) (aP (by simp) (hK1 w q2 D _ _ _ h3))
end
section
variable {H0 A:Heap}{c:Nat->Nat}{bb dp dm p m:Nat}{s1 s2:Pl}{w w1 w2:Option RW}{r1 r2:Option RR}{wr:RW}{rd:RR}{a4 a5 a6 a7:Option Addr}{x y:Nat}{l:Sl}{ll:List Int}
theorem vP {F' O F O0:Nat->Prop}{i j:Nat}{B:Heap}(hm:Mod (λb=>F b\/O0 b) A B)(hF:∀b,F b->c b=i)(hO:∀b,O0 b->c b=j)(h1:∀b,F' b->(F b\/O0 b)\/A.size<=b)(h2:∀b,O b->(F b\/O0 b)\/A.size<=b):CS (λk=>k=i\/k=j) c (dB c A F' O i j) A B:=by
 have hS:∀b,F b\/O0 b->c b=i\/c b=j:=λb q=>q.elim (λu=>.inl (hF b u)) λu=>.inr (hO b u)
 refine fO hm (λb _ q=>hS b q) (λb q hb=>?_) (λb q hb=>?_)
 ·rcases h1 b q with u|u
  ·exact hS b u
  ·omega
 ·rcases h2 b q with u|u
  ·exact hS b u
  ·omega
theorem Fe {K:Int->Heap->Prop}(h:il H0 A c bb dp dm p m s1 s2 (some wr) w2 r1 r2 a4 a5 a6 a7)(hg:Gl H0)(hb:Bd s1 x y)(hx:x<1000000)(hy:y<100000000)
  (hl:Ints .u64 A l ll) (hlb:∀ad,l.a=some ad->c ad.block≠3) (hlen:(ll.length:Int)=wr.b.width->ll.length<=1000000) (hwl:wr.wait.length<=1000000) (hwr:wr.rows<1099511627776) (hwn:wr.n<1099511627776) (hnm:wr.b.name=nmF)
  (hK:∀B c',CS (λi=>i=1\/i=3) c c' A B->il H0 B c' bb dp dm p m (wr.add s1 ll).1 s2 (some (wr.add s1 ll).2.1) w2 r1 r2 a4 a5 a6 a7->K (wr.add s1 ll).2.2 B):tV.sp a4 l A K:=by
 have lo:=hb.lo;have hi:=hb.hi;have lg:=hb.logs
 obtain⟨k,sw,sl,rfl,hw,hc⟩:=h.w1
 obtain⟨F,p1,f1⟩:=h.p1
 have h0:=(h.hd.old _ hg.lt).1
 refine vR (h.hd.gl hg) (λq=>by rw[hc _ q] at h0;exact absurd h0 (by decide)) hw p1 (λb q u=>by have:=f1 b q;rw[hc b u] at this;exact absurd this (by decide)) hl (λad e q=>hlb ad e (hc _ q)) hlen hwl hwr hwn (by rw[hnm];decide) (by omega) (by omega) lo hb.fit λF' sw' sl' B q1 q2 q3 S=>?_
 have X:=vP (F':=F') (O:=fg k sw' sl') S.mod f1 hc (λb q=>S.own b (.inl q)) (λb q=>S.own b (.inr q))
 exact hK B _ X (h.bf X (by decide) (by decide) (.inr ⟨F',q1,λb q=>dQ q⟩) (.inl ⟨by decide,rfl⟩) (.inr ⟨k,sw',sl',rfl,q2,λb q=>gK q λu=>q3 b u q⟩) (.inl ⟨by decide,rfl⟩) (.inl ⟨by decide,rfl⟩) (.inl ⟨by decide,rfl⟩))
theorem EG {K:Int->Heap->Prop}(h:il H0 A c bb dp dm p m s1 s2 w1 (some wr) r1 r2 a4 a5 a6 a7)(hb:Bd s2 x y)(hx:x<1000000)(hy:y<100000000)
  (hl:Ints .u64 A l ll) (hlb:∀ad,l.a=some ad->ll≠[]->c ad.block≠4) (hlen:(ll.length:Int)=wr.b.width->ll.length<=1000000) (hwl:wr.wait.length<=1000000) (hwr:wr.rows<1099511627776) (hwn:wr.n<1099511627776) (hnm:wr.b.name=nmF)
  (hK:∀B c',CS (λi=>i=2\/i=4) c c' A B->il H0 B c' bb dp dm p m s1 (wr.add s2 ll).1 w1 (some (wr.add s2 ll).2.1) r1 r2 a4 a5 a6 a7->K (wr.add s2 ll).2.2 B):Gd.sp a5 l A K:=by
 have lo:=hb.lo;have hi:=hb.hi;have lg:=hb.logs
 obtain⟨k,sw,sl,rfl,hw,hc⟩:=h.w2
 obtain⟨F,p1,f1⟩:=h.p2
 refine Fx hw p1 (λb q u=>by have:=f1 b q;rw[hc b u] at this;exact absurd this (by decide)) hl (λad e hne q=>hlb ad e hne (hc _ q)) hlen hwl hwr hwn (by rw[hnm];decide) (by omega) (by omega) lo hb.fit λF' sw' sl' B q1 q2 q3 S=>?_
 have X:=vP (F':=F') (O:=fg k sw' sl') S.mod f1 hc (λb q=>S.own b (.inl q)) (λb q=>S.own b (.inr q))
 exact hK B _ X (h.bf X (by decide) (by decide) (.inl ⟨by decide,rfl⟩) (.inr ⟨F',q1,λb q=>dQ q⟩) (.inl ⟨by decide,rfl⟩) (.inr ⟨k,sw',sl',rfl,q2,λb q=>gK q λu=>q3 b u q⟩) (.inl ⟨by decide,rfl⟩) (.inl ⟨by decide,rfl⟩))
theorem Ao {K:(Int×Int)->Heap->Prop}(h:il H0 A c bb dp dm p m s1 s2 (some wr) w2 r1 r2 a4 a5 a6 a7)(hg:Gl H0)(hb:Bd s1 x y)(hx:x<1000000)(hy:y<100000000)
  (hwr:wr.rows<1099511627776) (hwd:0<=wr.b.width) (hnm:wr.b.name=nmF)
  (hK:∀B c',CS (λi=>i=1\/i=3) c c' A B->(wr.close s1).1.fs.length<=4096->il H0 B c' bb dp dm p m (wr.close s1).1 s2 (some (wr.close s1).2.1) w2 r1 r2 a4 a5 a6 a7->K (((wr.close s1).2.2.1:Int),(wr.close s1).2.2.2) B):wU.sp a4 A K:=by
 have lo:=hb.lo;have hi:=hb.hi;have lg:=hb.logs
 obtain⟨k,sw,sl,rfl,hw,hc⟩:=h.w1
 obtain⟨F,p1,f1⟩:=h.p1
 have h0:=(h.hd.old _ hg.lt).1
 have ho:=hb.out (w:=wr) (by omega)
 have lo1:=ho.lo;have hi1:=ho.hi;have lg1:=ho.logs
 refine sA (h.hd.gl hg) (λq=>by rw[hc _ q] at h0;exact absurd h0 (by decide)) hw p1 (λb q u=>by have:=f1 b q;rw[hc b u] at this;exact absurd this (by decide)) hwr hwd (by rw[hnm];decide) (by omega) (by omega) lo hb.fit (by omega) (by omega) (λz d=>by have:=(Bd.leave ((ho.aR (n:=wr.b.name) (by omega) 0).set z 2 d) z).logs;omega) λF' sw' B q1 q2 q3 S=>?_
 have X:=vP (F':=F') (O:=fg k sw' sl) S.mod f1 hc (λb q=>S.own b (.inl q)) (λb q=>S.own b (.inr q))
 exact hK B _ X (by have:=q1.wf.len;have:=q1.wf.most;omega) (h.bf X (by decide) (by decide) (.inr ⟨F',q1,λb q=>dQ q⟩) (.inl ⟨by decide,rfl⟩) (.inr ⟨k,sw',sl,rfl,q2,λb q=>gK q λu=>q3 b u q⟩) (.inl ⟨by decide,rfl⟩) (.inl ⟨by decide,rfl⟩) (.inl ⟨by decide,rfl⟩))
theorem zR {K:(Int×Int)->Heap->Prop}(h:il H0 A c bb dp dm p m s1 s2 w1 (some wr) r1 r2 a4 a5 a6 a7)(hb:Bd s2 x y)(hx:x<1000000)(hy:y<100000000)
  (hwr:wr.rows<1099511627776) (hwd:0<=wr.b.width) (hnm:wr.b.name=nmF)
  (hK:∀B c',CS (λi=>i=2\/i=4) c c' A B->il H0 B c' bb dp dm p m s1 (wr.close s2).1 w1 (some (wr.close s2).2.1) r1 r2 a4 a5 a6 a7->K (((wr.close s2).2.2.1:Int),(wr.close s2).2.2.2) B):Eu.sp a5 A K:=by
 have lo:=hb.lo;have hi:=hb.hi;have lg:=hb.logs
 obtain⟨k,sw,sl,rfl,hw,hc⟩:=h.w2
 obtain⟨F,p1,f1⟩:=h.p2
 have ho:=hb.out (w:=wr) (by omega)
 have lo1:=ho.lo;have hi1:=ho.hi;have lg1:=ho.logs
 refine Bb hw p1 (λb q u=>by have:=f1 b q;rw[hc b u] at this;exact absurd this (by decide)) hwr hwd (by rw[hnm];decide) (by omega) (by omega) lo hb.fit (by omega) (by omega) (λz d=>by have:=(Bd.leave ((ho.aR (n:=wr.b.name) (by omega) 0).set z 2 d) z).logs;omega) ho.fit (λz d=>(Bd.leave ((ho.aR (n:=wr.b.name) (by omega) 0).set z 2 d) z).fit) λF' sw' B q1 q2 q3 S=>?_
 have X:=vP (F':=F') (O:=fg k sw' sl) S.mod f1 hc (λb q=>S.own b (.inl q)) (λb q=>S.own b (.inr q))
 exact hK B _ X (h.bf X (by decide) (by decide) (.inl ⟨by decide,rfl⟩) (.inr ⟨F',q1,λb q=>dQ q⟩) (.inl ⟨by decide,rfl⟩) (.inr ⟨k,sw',sl,rfl,q2,λb q=>gK q λu=>q3 b u q⟩) (.inl ⟨by decide,rfl⟩) (.inl ⟨by decide,rfl⟩))
theorem Dh {K:(Sl×Bool×Int)->Heap->Prop}(h:il H0 A c bb dp dm p m s1 s2 w1 w2 (some rd) r2 a4 a5 a6 a7)(hg:Gl H0)(hb:Bd s1 x y)(hx:x<1000000)(hy:y<100000000)(ok:rd.Ok)(hnm:rd.b.name=nmF)
  (hK:∀B c' l,CS (λi=>i=1\/i=5) c c' A B->il H0 B c' bb dp dm p m (rd.next s1).1 s2 w1 w2 (some (rd.next s1).2.1) r2 a4 a5 a6 a7->aT B 0 eL 1 l ((rd.next s1).2.2.1.map (Lb .u64))->(∀b,al l b->c' b=9)->K (l,(rd.next s1).2.2.2.1,(rd.next s1).2.2.2.2) B):tY.sp a6 A K:=by
 have lo:=hb.lo;have hi:=hb.hi;have lg:=hb.logs
 obtain⟨k,si,rs,rfl,hw,hc⟩:=h.r1
 obtain⟨F,p1,f1⟩:=h.p1
 have h0:=(h.hd.old _ hg.lt).1
 have st:c0 A F (iV k si rs) k p dp si rs F A s1 rd:=⟨p1,hw,λb q u=>by have:=f1 b q;rw[hc b u] at this;exact absurd this (by decide),.refl _ _,λ_ q=>.inl q,λ_ q=>.inl q⟩
 refine uZ (h.hd.gl hg) (λq=>by rw[f1 _ q] at h0;exact absurd h0 (by decide)) (λq=>by rw[q,hc k (.inl rfl)] at h0;exact absurd h0 (by decide)) st ok (by rw[hnm];decide) (by omega) (by omega) lo λF' si' rs' B l q1 q2 q3=>?_
 have X:=vP (F':=F') (O:=iV k si' rs') (q1.mod.mono λb _ q=>q.elim .inl λe=>.inr (.inl e)) f1 hc (λb q=>(q1.own b q).elim (λu=>.inl (.inl u)) .inr) (λb q=>(q1.own2 b q).elim (λu=>.inl (.inr u)) .inr)
 refine hK B _ l X (h.bf X (by decide) (by decide) (.inr ⟨F',q1.ag,λb q=>dQ q⟩) (.inl ⟨by decide,rfl⟩) (.inl ⟨by decide,rfl⟩) (.inl ⟨by decide,rfl⟩) (.inr ⟨k,si',rs',rfl,q1.rd,λb q=>gK q λu=>q1.dis b u q⟩) (.inl ⟨by decide,rfl⟩)) q2 λb hb=>?_
 obtain⟨u1,u2,u3⟩:=q3 b hb
 unfold dB
 rw[if_neg u2,if_neg u3,if_neg (by omega)]
theorem Cj {K:(Sl×Bool×Int)->Heap->Prop}(h:il H0 A c bb dp dm p m s1 s2 w1 w2 r1 (some rd) a4 a5 a6 a7)(hb:Bd s2 x y)(hx:x<1000000)(hy:y<100000000)(ok:rd.Ok)(hnm:rd.b.name=nmF)
  (hK:∀B c' l,CS (λi=>i=2\/i=6) c c' A B->il H0 B c' bb dp dm p m s1 (rd.next s2).1 w1 w2 r1 (some (rd.next s2).2.1) a4 a5 a6 a7->Ints .u64 B l (rd.next s2).2.2.1->K (l,(rd.next s2).2.2.2.1,(rd.next s2).2.2.2.2) B):E0.sp a7 A K:=by
 have lo:=hb.lo;have hi:=hb.hi;have lg:=hb.logs
 obtain⟨k,si,rs,rfl,hw,hc⟩:=h.r2
 obtain⟨F,p1,f1⟩:=h.p2
 have st:dP A F (iV k si rs) k m dm si rs F A s2 rd:=⟨p1,hw,λb q u=>by have:=f1 b q;rw[hc b u] at this;exact absurd this (by decide),.refl _ _,λ_ q=>.inl q,λ_ q=>.inl q⟩
 refine Cr st ok (by rw[hnm];decide) (by omega) (by omega) lo λF' si' rs' B l q1 q2 q3 q4=>?_
 have X:=vP (F':=F') (O:=iV k si' rs') (q1.mod.mono λb _ q=>q.elim .inl λe=>.inr (.inl e)) f1 hc (λb q=>(q1.own b q).elim (λu=>.inl (.inl u)) .inr) (λb q=>(q1.own2 b q).elim (λu=>.inl (.inr u)) .inr)
 exact hK B _ l X (h.bf X (by decide) (by decide) (.inl ⟨by decide,rfl⟩) (.inr ⟨F',q1.ag,λb q=>dQ q⟩) (.inl ⟨by decide,rfl⟩) (.inl ⟨by decide,rfl⟩) (.inl ⟨by decide,rfl⟩) (.inr ⟨k,si',rs',rfl,q1.rd,λb q=>gK q λu=>q1.dis b u q⟩)) q2
theorem DT {V:Nat}{K:Int->Heap->Prop}(h:il H0 A c bb dp dm p m s1 s2 w1 w2 (some rd) r2 a4 a5 a6 a7)(hg:Gl H0)(hb:Bd s1 x y)(hx:x<1000000)(hy:y<100000000)(ok:ROK nmF V rd)(hs:InW V nmF s1)(hV:V<=16)
  (hl:Ints .u64 A l ll) (hlb:∀ad,l.a=some ad->ll≠[]->c ad.block=0) (hlen:(ll.length:Int)<=rd.b.width->ll.length<=1000000)
  (hK:∀B c',CS (λi=>i=1\/i=5) c c' A B->il H0 B c' bb dp dm p m (rd.bS s1 ll).1 s2 w1 w2 (some (rd.bS s1 ll).2.1) r2 a4 a5 a6 a7->K (rd.bS s1 ll).2.2 B):wc.sp a6 l A K:=by
 have lo:=hb.lo;have hi:=hb.hi;have lg:=hb.logs
 obtain⟨k,si,rs,rfl,hw,hc⟩:=h.r1
 obtain⟨F,p1,f1⟩:=h.p1
 have h0:=(h.hd.old _ hg.lt).1
 have fb:=hb.find (by omega) ok.ok ll
 have fl:=fb.logs;have fh:=fb.hi
 have st:c0 A F (iV k si rs) k p dp si rs F A s1 rd:=⟨p1,hw,λb q u=>by have:=f1 b q;rw[hc b u] at this;exact absurd this (by decide),.refl _ _,λ_ q=>.inl q,λ_ q=>.inl q⟩
 refine sE (h.hd.gl hg) (λq=>by rw[f1 _ q] at h0;exact absurd h0 (by decide)) (λq=>by rw[q,hc k (.inl rfl)] at h0;exact absurd h0 (by decide)) st ok.ok hl (λad e hne=>⟨λq=>?_,λq=>?_⟩) hlen (by rw[ok.name];decide) (by omega) (by omega) ⟨by omega,by omega⟩ (λ_ _ _=>ok.down hs hV ll) λF' si' rs' B q1=>?_
 ·have:=hlb ad e hne;rw[f1 _ q] at this;exact absurd this (by decide)
 ·have:=hlb ad e hne;rw[q,hc k (.inl rfl)] at this;exact absurd this (by decide)
 have X:=vP (F':=F') (O:=iV k si' rs') (q1.mod.mono λb _ q=>q.elim .inl λe=>.inr (.inl e)) f1 hc (λb q=>(q1.own b q).elim (λu=>.inl (.inl u)) .inr) (λb q=>(q1.own2 b q).elim (λu=>.inl (.inr u)) .inr)
 exact hK B _ X (h.bf X (by decide) (by decide) (.inr ⟨F',q1.ag,λb q=>dQ q⟩) (.inl ⟨by decide,rfl⟩) (.inl ⟨by decide,rfl⟩) (.inl ⟨by decide,rfl⟩) (.inr ⟨k,si',rs',rfl,q1.rd,λb q=>gK q λu=>q1.dis b u q⟩) (.inl ⟨by decide,rfl⟩))
theorem BX {K:Int->Heap->Prop}(h:il H0 A c bb dp dm p m s1 s2 w1 w2 r1 (some rd) a4 a5 a6 a7)(hb:Bd s2 x y)(hx:x<1000000)(hy:y<100000000)(ok:rd.Ok)(hnm:rd.b.name=nmF)
  (hl:Ints .u64 A l ll) (hlb:∀ad,l.a=some ad->ll≠[]->c ad.block=0) (hlen:(ll.length:Int)<=rd.b.width->ll.length<=1000000)
  (hK:∀B c' q,CS (λi=>i=2\/i=6) c c' A B->il H0 B c' bb dp dm p m s1 (rd.bS s2 ll).1 w1 w2 r1 (some q) a4 a5 a6 a7->q.Ok->(q=(rd.bS s2 ll).2.1\/q.b=(rd.bS s2 ll).2.1.b/\q.b.ready≠0)->K (rd.bS s2 ll).2.2 B):Fw.sp a7 l A K:=by
 have lo:=hb.lo;have hi:=hb.hi;have lg:=hb.logs
 obtain⟨k,si,rs,rfl,hw,hc⟩:=h.r2
 obtain⟨F,p1,f1⟩:=h.p2
 have st:dP A F (iV k si rs) k m dm si rs F A s2 rd:=⟨p1,hw,λb q u=>by have:=f1 b q;rw[hc b u] at this;exact absurd this (by decide),.refl _ _,λ_ q=>.inl q,λ_ q=>.inl q⟩
 refine BV st ok hl (λad e hne=>⟨λq=>?_,λq=>?_⟩) hlen (by rw[hnm];decide) (by omega) (by omega) lo λF' si' rs' B q q1 q2 q3=>?_
 ·have:=hlb ad e hne;rw[f1 _ q] at this;exact absurd this (by decide)
 ·have:=hlb ad e hne;rw[q,hc k (.inl rfl)] at this;exact absurd this (by decide)
 have X:=vP (F':=F') (O:=iV k si' rs') (q1.mod.mono λb _ q=>q.elim .inl λe=>.inr (.inl e)) f1 hc (λb q=>(q1.own b q).elim (λu=>.inl (.inl u)) .inr) (λb q=>(q1.own2 b q).elim (λu=>.inl (.inr u)) .inr)
 exact hK B _ q X (h.bf X (by decide) (by decide) (.inl ⟨by decide,rfl⟩) (.inr ⟨F',q1.ag,λb q=>dQ q⟩) (.inl ⟨by decide,rfl⟩) (.inl ⟨by decide,rfl⟩) (.inl ⟨by decide,rfl⟩) (.inr ⟨k,si',rs',rfl,q1.rd,λb q=>gK q λu=>q1.dis b u q⟩)) q2 q3
end
theorem iq.row {H:Heap}{base:Nat}{r:Sl}{l:List Int}(h:iq H base r l):aT H base eL 1 r (l.map (Lb .u64)):=by
 have hn:=h.len
 obtain⟨h1,h2⟩:=h.own
 refine⟨by simp[hn],.inr ?_⟩
 rcases h2 with ⟨_,h3⟩|⟨g,cap,cur,e1,hb,hg,h3,h4,h5,h6⟩
 ·simp at h3
 ·cases r with
  |mk a n c=>
    simp only[Sl.v,Ld] at e1
    obtain⟨ea,_,ec⟩:=e1
    simp only at hn h3 h6
    refine⟨g,cap,cur,by simp[Sl.v,ea,ec],hb,hg,by show n<=cap;omega,h4,h5,?_⟩
    have h7:=congrArg (List.take n) h6
    rw[List.take_take,List.map_append,List.take_left' (by simp[hn])] at h7
    have e8:min n ((n+1)*1)=n:=by omega
    rw[e8] at h7
    show cur.toList.take (n*1)=_
    rw[LU];exact h7
theorem cM {k n:Int}{X:(Bool->Heap->Prop)->Prop}{B:Bool->Heap->Prop}{H:Heap}(hk:(k==n)=false)(h:B false H):cut Bool (λJ=>br (k==n) (X J) (J false H)) B:=⟨B,aw hk h,λ_ _ u=>u⟩
theorem vz {k n:Int}{H:Heap}{b i:Nat}{t:TypeId}{cs:Array Value}{a:Option Addr}{Y:(Bool->Heap->Prop)->Prop}{B:Bool->Heap->Prop}(hr:aj H b t cs)(hi:cs[i]?=some (.pointer a))(hk:(k==n)=true)(h:B (!a.isNone) H):cut Bool (λJ=>br (k==n) (ld ar H (La ⟨b,0,none⟩ i) λx=>J (!x.isNone) H) (Y J)) B:=
 ⟨B,aP hk (hr.ld (c:=ar) (x:=a) hi h),λ_ _ u=>u⟩
def Rel (r q:RR):Prop:=q=r\/(q.b=r.b/\r.b.ready≠0/\q.Ok)
inductive Cg (V:Nat):Option RR->Option RR->Prop
 |none:Cg V none none
 |some {r q:RR} (h:ROK nmF V r) (k:Rel r q):Cg V (some r) (some q)
inductive Cal (s:Pl)(i:Nat):Option RW->Option RR->Option RR->Prop
 |nil (h:Nil0 s):Cal s i none none none
 |on {V:Nat} {ow:Option RW} {r1 r2:Option RR} (hV:V<=16) (h:InW V nmF s) (hw:∀w,ow=some w->uQ nmF V w (bC V)/\w.rows<=i) (hr:Cg V r1 r2):Cal s i ow r1 r2
theorem Cal.mono {s:Pl}{i:Nat}{ow:Option RW}{r1 r2:Option RR}(h:Cal s i ow r1 r2):Cal s (i+1) ow r1 r2:=by
 cases h with
 |nil h=>exact .nil h
 |on hV h hw hr=>exact .on hV h (λw e=>⟨(hw w e).1,Nu (hw w e).2⟩) hr
theorem Cal.make {s:Pl}{i:Nat}{W:Int}{ow:Option RW}{r1 r2:Option RR}(h:Cal s i ow r1 r2):
  ((aJ s nmF W).2.1=none->Cal (aJ s nmF W).1 (i+1) ow r1 r2)/\∀w,(aJ s nmF W).2.1=some w->Cal (aJ s nmF W).1 (i+1) (some w) r1 r2:=by
 cases h with
 |nil h=>
   rcases h.make (n:=nmF) (x:=W) with ⟨q1,q2⟩|⟨U,rfl,q1,q2,q3⟩
   ·exact⟨λ_=>.nil q2,λw e=>by rw[q1] at e;cases e⟩
   ·refine⟨λe=>by (rw[q2] at e;cases e),λw e=>?_⟩
    obtain rfl:rA nmF U=w:=K1 (q2.symm.trans e)
    exact .on q1 q3 (λw e=>by cases e;exact⟨uQ.new q1,Lh _⟩) .none
 |on hV h hw hr=>
   obtain⟨q1,q2⟩:=h.make (x:=W)
   exact⟨λ_=>.on hV q2 (λw e=>⟨(hw w e).1,Nu (hw w e).2⟩) hr,λw e=>by rw[q1] at e;cases e⟩
theorem Cal.open {s:Pl}{i:Nat}{W:Int}{ow:Option RW}{r1 r2:Option RR}(h:Cal s i ow r1 r2):
  ((rnOpen s nmF W).2.1=none->Cal (rnOpen s nmF W).1 (i+1) ow r1 r2)/\∀r,(rnOpen s nmF W).2.1=some r->Cal (rnOpen s nmF W).1 (i+1) ow (some r) (some r):=by
 cases h with
 |nil h=>
   obtain⟨q1,q2⟩:=h.open (n:=nmF) (x:=W)
   exact⟨λ_=>.nil q2,λw e=>by rw[q1] at e;cases e⟩
 |on hV h hw hr=>
   obtain⟨q1,q2⟩:=h.open (x:=W) hV
   exact⟨λ_=>.on hV q1 (λw e=>⟨(hw w e).1,Nu (hw w e).2⟩) hr,λr e=>.on hV q1 (λw e=>⟨(hw w e).1,Nu (hw w e).2⟩) (.some (q2 r e) (.inl rfl))⟩
theorem uQ.EA {V:Nat}{w:RW}(h:uQ nmF V w (bC V))(hV:V<=16):w.wait.length<=504/\w.n<=504:=by
 obtain⟨r1,r2,r3,r4⟩:=bQ (Lh V) hV
 obtain⟨L,hL⟩:=h.lay
 have h1:=hL.room
 refine⟨?_,by rw[hL.n];omega⟩
 rw[hL.wait,fI (Lh V) hL.rise.len]
 exact Lc (Nat.mul_le_mul_right _ (Nat.le_of_lt h1)) r3
theorem ROK.Iv {V:Nat}{r:RR}{s:Pl}(hs:InW V nmF s)(h:ROK nmF V r)(hV:V<=16):(r.next s).2.2.1.length<=16:=by
 unfold RR.next
 split
 ·simp
 split
 ·simp
 split
 ·simp
 show ((r.load s (r.at_/r.b.room)).2.1.ins.getD (r.at_%r.b.room) []).length<=16
 rw[Lo]
 cases e:(r.load s (r.at_/r.b.room)).2.1.ins[r.at_%r.b.room]? with
 |none=>simp
 |some l=>
   simp only[Option.getD_some]
   rw[(h.load hs hV _).2.rise.len l (KH e)];exact hV
theorem RR.ou {r:RR}{s:Pl}(h:r.b.ready≠0):r.next s=(s,r,[],false,r.b.ready):=if_pos h
theorem RR.sq {r:RR}{s:Pl}{ll:List Int}(h:r.b.ready≠0):r.bS s ll=(s,r,r.b.ready):=if_pos h
theorem Rb.yC (b:Rb):({b with closed:=true}:Rb).ready≠0:=by
 unfold Rb.ready
 split
 ·assumption
 ·simp
def BT (H0 A:Heap)(bb dp dm p m i:Nat):Prop:=∃c s ow r1 r2 a4 a5 a6 a7,il H0 A c bb dp dm p m s s ow ow r1 r2 a4 a5 a6 a7/\Bd s (40*i+50) (4300*i+5000)/\Cal s i ow r1 r2
section
variable {H0 A:Heap}{c:Nat->Nat}{bb dp dm p m:Nat}{s1 s2:Pl}{w w1 w2:Option RW}{r1 r2:Option RR}{rd:RR}{a4 a5 a6 a7:Option Addr}{l:Sl}{ll:List Int}
theorem Hv.ints (h:Hv H0 A c bb dp dm p m a4 a5 a6 a7)(hl:Ints .u64 H0 l ll):Ints .u64 A l ll/\∀ad,l.a=some ad->ll≠[]->c ad.block=0:=by
 refine⟨⟨hl.len,λi v hv=>?_⟩,λad ha hne=>?_⟩
 ·obtain⟨ad,ha,hc⟩:=hl.reads i v hv
  have hlt:=fK hc
  exact⟨ad,ha,(dV (h.old _ hlt).2).trans hc⟩
 ·have h0:0<ll.length:=List.length_pos_iff.2 hne
  obtain⟨ad',ha',hc⟩:=hl.at h0
  obtain rfl:ad=ad':=K1 (ha.symm.trans ha')
  have hlt:=fK hc
  rw[cO] at hlt
  exact(h.old _ hlt).1
theorem BM {K:Unit->Heap->Prop}(h:il H0 A c bb dp dm p m s1 s2 w1 w2 (some rd) r2 a4 a5 a6 a7)
  (hK:∀B,CS (λi=>i=5) c c A B->il H0 B c bb dp dm p m s1 s2 w1 w2 (some rd.stop) r2 a4 a5 a6 a7->K () B):By.sp a6 A K:=by
 obtain⟨k,si,rs,rfl,hw,hc⟩:=h.r1
 refine By.of ?_
 unfold By.vc
 refine aP rfl ?_
 refine dv _ rfl ?_
 simp only[add_add,Of]
 refine aj.st hw.row (i:=5) (by simp[bD]) rfl λD rD mD zD=>?_
 have X:CS (λi=>i=5) c c A D:=⟨Qm zD.symm,λb hb hn=>⟨rfl,mD.same b hb λe=>hn (by rw[e];exact hc k (.inl rfl))⟩⟩
 refine hK D X (h.bf X (by decide) (by decide) (.inl ⟨by decide,rfl⟩) (.inl ⟨by decide,rfl⟩) (.inl ⟨by decide,rfl⟩) (.inl ⟨by decide,rfl⟩) (.inr ⟨k,si,rs,rfl,⟨?_,?_⟩,hc⟩) (.inl ⟨by decide,rfl⟩))
 ·exact rD
 ·exact hw.ins.mod mD (λb hb q=>hw.pN (q▸hb)) λx hx b hb q=>hw.nF x hx (q▸hb)
theorem DF {K:Heap->Prop}(h:il H0 A c bb dp dm p m s1 s2 w1 w2 r1 (some rd) a4 a5 a6 a7)
  (hK:∀B,CS (λi=>i=6) c c A B->il H0 B c bb dp dm p m s1 s2 w1 w2 r1 (some rd.stop) a4 a5 a6 a7->K B):ab a7 λa=>st A ((a.add 0).add 4) (.bool true) K:=by
 obtain⟨k,si,rs,rfl,hw,hc⟩:=h.r2
 refine dv _ rfl ?_
 simp only[add_add,Of]
 refine aj.st hw.row (i:=4) (by simp[cc]) rfl λD rD mD zD=>?_
 have X:CS (λi=>i=6) c c A D:=⟨Qm zD.symm,λb hb hn=>⟨rfl,mD.same b hb λe=>hn (by rw[e];exact hc k (.inl rfl))⟩⟩
 refine hK D X (h.bf X (by decide) (by decide) (.inl ⟨by decide,rfl⟩) (.inl ⟨by decide,rfl⟩) (.inl ⟨by decide,rfl⟩) (.inl ⟨by decide,rfl⟩) (.inl ⟨by decide,rfl⟩) (.inr ⟨k,si,rs,rfl,⟨?_,?_⟩,hc⟩))
 ·exact rD
 ·exact hw.ins.mod mD (λb hb q=>hw.pN (q▸hb)) λx hx b hb q=>hw.nF x hx (q▸hb)
end
section
variable {H0 A:Heap}{bb dp dm p m i:Nat}{kd W:Int}{l:Sl}{ll:List Int}{K:Bool->Heap->Prop}
set_option maxHeartbeats 4000000 in
theorem zI (t:BT H0 A bb dp dm p m i)(hg:Gl H0)(hi:i<=300)(hl:Ints .u64 H0 l ll)(hf:jW ll)(hlen:ll.length<=17592186043904)
  (hK:∀B,BT H0 B bb dp dm p m (i+1)->K true B):Fs.sp (aD bb) kd l W A K:=by
 obtain⟨c,s,ow,r1,r2,a4,a5,a6,a7,h,hb,hcal⟩:=t
 refine Fs.of ?_
 unfold Fs.vc
 simp only[aq,aD]
 refine ao λA1 z1 rp e1=>?_
 have X1:CS (λ_=>False) c (dB c A (λb=>b=A.size) (λ_=>False) 8 9) A A1:=fO e1 (λb _ q=>q) (λb q hb=>by omega) (λb q=>q.elim)
 have c8:dB c A (λb=>b=A.size) (λ_=>False) 8 9 A.size=8:=dQ rfl
 have h1:=h.bf X1 id id (.inl ⟨id,rfl⟩) (.inl ⟨id,rfl⟩) (.inl ⟨id,rfl⟩) (.inl ⟨id,rfl⟩) (.inl ⟨id,rfl⟩) (.inl ⟨id,rfl⟩)
 generalize dB c A (λb=>b=A.size) (λ_=>False) 8 9=c1 at*
 clear X1
 obtain⟨pb,hpb⟩:∃pb,pb=A.size:=⟨_,rfl⟩
 rw[<-hpb] at rp c8 ⊢
 refine rp.ld (c:=aa .i64) (i:=0) (x:=kd) rfl ?_
 refine u6 (by omega) ?_
 rw[if_neg (by omega)]
 obtain⟨k,hk⟩:∃k,k=kd.emod 7:=⟨_,rfl⟩
 have hk0:0<=k/\k<7:=by rw[hk];exact⟨Oj _ (by decide),Ol _ (by decide)⟩
 rw[<-hk]
 clear hk
 have gA:=h1.hd.gl hg
 have hx:40*i+50<1000000:=by omega
 have hy:4300*i+5000<100000000:=by omega
 have same:∀{B c' a4 a5 a6 a7},il H0 B c' bb dp dm p m s s ow ow r1 r2 a4 a5 a6 a7->K true B:=λg=>hK _ ⟨_,_,_,_,_,_,_,_,_,g,hb.mono (by omega) (by omega),hcal.mono⟩
 have hrow:∀{B:Heap},aj B pb wS #[.int .i64 kd,l.v,.int .i64 W]->∀{P:Sl->Prop},P l->ld av B (La ⟨pb,0,none⟩ 1) P:=λr _ q=>r.ld (c:=av) (i:=1) (x:=l) rfl q
 have hwid:∀{P:Int->Prop},P W->ld (aa .i64) A1 (La ⟨pb,0,none⟩ 2) P:=λq=>rp.ld (c:=aa .i64) (i:=2) (x:=W) rfl q
 rcases (by omega:k=0\/k=1\/k=2\/k=3\/k=4\/k=5\/k=6) with rfl|rfl|rfl|rfl|rfl|rfl|rfl
 ·-- Add
  refine vz h1.hd.row (i:=5) (a:=a5) rfl rfl ?_
  cases ow with
  |none=>
    have e5:a5=none:=h1.w2
    subst e5
    exact aw rfl (cM rfl (aw rfl (aw rfl (cM rfl (aw rfl (cM rfl (aw rfl (cM rfl (aw rfl (aw rfl (same h1)))))))))))
  |some w=>
    cases hcal with
    |on hV hs hw hr=>
    rename_i V
    obtain⟨hw1,hw2⟩:=hw w rfl
    obtain⟨wl1,wl2⟩:=hw1.EA hV
    have h5:a5.isNone=false:=by obtain⟨_,_,_,rfl,_⟩:=h1.w2;rfl
    refine aP (by rw[h5];rfl) ?_
    refine hrow rp ?_
    refine DI (h1.hd.ints hl).1 hlen λlt A2 lr e2=>?_
    have X2:CS (λ_=>False) c1 (dB c1 A1 (λ_=>False) (λ_=>False) 9 9) A1 A2:=fO e2 (λb _ q=>q) (λb q=>q.elim) (λb q=>q.elim)
    have h2:=h1.bf X2 id id (.inl ⟨id,rfl⟩) (.inl ⟨id,rfl⟩) (.inl ⟨id,rfl⟩) (.inl ⟨id,rfl⟩) (.inl ⟨id,rfl⟩) (.inl ⟨id,rfl⟩)
    have c82:dB c1 A1 (λ_=>False) (λ_=>False) 9 9 pb=8:=((X2.ak pb (aG rp) id).1).trans c8
    have c9:∀b,al lt b->dB c1 A1 (λ_=>False) (λ_=>False) 9 9 b=9:=λb hb=>by
     have:=(lr.block b hb).1
     unfold dB;rw[if_neg id,if_neg id,if_neg (by omega)]
    generalize dB c1 A1 (λ_=>False) (λ_=>False) 9 9=c2 at*
    have rp2:=rp.mod e2 id
    refine h2.hd.row.ld (c:=ar) (i:=4) (x:=a4) rfl ?_
    refine Fe h2 hg hb hx hy lr.ints (λad ha q=>by rw[c9 _ ⟨ad,ha,rfl⟩] at q;exact absurd q (by decide)) (λe=>by rw[hw1.width] at e;omega) (by omega) (by omega) (by omega) hw1.name λB c3 X3 h3=>?_
    have rp3:=rp2.mod X3.mod (by show ¬_;rw[c82];decide)
    have lr3:=lr.mod X3.mod (λb hb=>by show ¬_;rw[c9 b hb];decide)
    have c93:∀b,al lt b->c3 b=9:=λb hb=>by rw[(X3.ak b (lr.block b hb).2 (by rw[c9 b hb];decide)).1];exact c9 b hb
    have c83:c3 pb=8:=((X3.ak pb (aG rp2) (by rw[c82];decide)).1).trans c82
    refine hrow rp3 ?_
    refine Cs lr3 (h3.hd.ints hl).1 hlen ?_
    refine sR lr3.row (by rw[lr3.len];exact hlen) (Lc e2.size X3.size) λC m4=>?_
    have X4:CS (λi=>i=9) c3 c3 B C:=⟨m4.size,λb hb hn=>⟨rfl,m4.same b hb λq=>hn (c93 b q)⟩⟩
    have h4:=h3.bf X4 (by decide) (by decide) (.inl ⟨by decide,rfl⟩) (.inl ⟨by decide,rfl⟩) (.inl ⟨by decide,rfl⟩) (.inl ⟨by decide,rfl⟩) (.inl ⟨by decide,rfl⟩) (.inl ⟨by decide,rfl⟩)
    have rp4:=rp3.mod X4.mod (by show ¬_;rw[c83];decide)
    refine aP rfl ?_
    refine h4.hd.row.ld (c:=ar) (i:=5) (x:=a5) rfl ?_
    refine hrow rp4 ?_
    obtain⟨hl4,hl40⟩:=h4.hd.ints hl
    refine EG h4 hb hx hy hl4 (λad ha hne q=>by rw[hl40 ad ha hne] at q;exact absurd q (by decide)) (λe=>by rw[hw1.width] at e;omega) (by omega) (by omega) (by omega) hw1.name λD c5 X5 h5=>?_
    rw[beq_self_eq_true]
    obtain⟨q1,q2,q3⟩:=hw1.add hs hV hf
    exact hK D ⟨_,_,_,_,_,_,_,_,_,h5,(hb.add (by omega) ll).mono (by omega) (by omega),.on hV q1 (λw' e=>by cases e;exact⟨q2,by omega⟩) hr⟩
 ·-- Close of the writer
  refine cM rfl (aw rfl ?_)
  refine vz h1.hd.row (i:=5) (a:=a5) rfl rfl ?_
  cases ow with
  |none=>
    have e5:a5=none:=h1.w2
    subst e5
    exact aw rfl (aw rfl (cM rfl (aw rfl (cM rfl (aw rfl (cM rfl (aw rfl (aw rfl (same h1)))))))))
  |some w=>
    cases hcal with
    |on hV hs hw hr=>
    rename_i V
    obtain⟨hw1,hw2⟩:=hw w rfl
    have h5:a5.isNone=false:=by obtain⟨_,_,_,rfl,_⟩:=h1.w2;rfl
    refine aP (by rw[h5];rfl) ?_
    refine h1.hd.row.ld (c:=ar) (i:=4) (x:=a4) rfl ?_
    refine Ao h1 hg hb hx hy (by omega) (by rw[hw1.width];omega) hw1.name λB c3 X3 hfs h3=>?_
    refine h3.hd.row.ld (c:=ar) (i:=5) (x:=a5) rfl ?_
    refine zR h3 hb hx hy (by omega) (by rw[hw1.width];omega) hw1.name λC c4 X4 h4=>?_
    rw[beq_self_eq_true,beq_self_eq_true]
    obtain⟨q1,q2,q3⟩:=hw1.close hs hV
    exact hK C ⟨_,_,_,_,_,_,_,_,_,h4,(hb.close (by omega) hfs).mono (by omega) (by omega),.on hV q1 (λw' e=>by cases e;exact⟨q2,by omega⟩) hr⟩
 ·-- Open
  refine cM rfl (aw rfl (cM rfl (aw rfl (aP rfl ?_))))
  refine hwid ?_
  obtain⟨o1,o2⟩:=hcal.open (W:=W)
  exact BK h1 hg hb hx hy (λe B c' g=>hK B ⟨_,_,_,_,_,_,_,_,_,g,(hb.open (by omega)).mono (by omega) (by omega),o1 e⟩) (λr e B c' b6 b7 g=>hK B ⟨_,_,_,_,_,_,_,_,_,g,(hb.open (by omega)).mono (by omega) (by omega),o2 r e⟩)
 ·-- Next
  refine cM rfl (aw rfl (cM rfl (aw rfl (aw rfl ?_))))
  refine vz h1.hd.row (i:=7) (a:=a7) rfl rfl ?_
  cases hcal with
  |nil hn=>
    have e7:a7=none:=h1.r2
    subst e7
    exact aw rfl (cM rfl (aw rfl (cM rfl (aw rfl (aw rfl (same h1))))))
  |on hV hs hw hr=>
    rename_i V
    cases hr with
    |none=>
      have e7:a7=none:=h1.r2
      subst e7
      exact aw rfl (cM rfl (aw rfl (cM rfl (aw rfl (aw rfl (same h1))))))
    |some hr hq=>
    rename_i r q
    have h7:a7.isNone=false:=by obtain⟨_,_,_,rfl,_⟩:=h1.r2;rfl
    refine aP (by rw[h7];rfl) ?_
    refine h1.hd.row.ld (c:=ar) (i:=6) (x:=a6) rfl ?_
    have key:∃q':RR,q.next s=((r.next s).1,q',(r.next s).2.2)/\Rel (r.next s).2.1 q'/\q.Ok/\q.b.name=nmF:=by
     rcases hq with rfl|⟨u1,u2,u3⟩
     ·exact⟨_,rfl,.inl rfl,hr.ok,hr.name⟩
     ·have u4:q.b.ready≠0:=by rw[u1];exact u2
      rw[RR.ou u4,RR.ou u2]
      exact⟨q,by rw[u1],.inr ⟨u1,u2,u3⟩,u3,by rw[u1];exact hr.name⟩
    obtain⟨q',k1,k2,k3,k4⟩:=key
    obtain⟨n1,n2⟩:=hr.next hs hV
    have n3:=hr.Iv hs hV
    refine Dh h1 hg hb hx hy hr.ok hr.name λB c3 x X3 h3 ox x9=>?_
    refine h3.hd.row.ld (c:=ar) (i:=7) (x:=a7) rfl ?_
    refine Cj h3 hb hx hy k3 k4 λC c4 y X4 h4 iy=>?_
    rw[k1] at h4 iy ⊢
    have ox4:=ox.mod X4.mod (λb hb=>by show ¬_;rw[x9 b hb];decide)
    have x94:∀b,al x b->c4 b=9:=λb hb=>by rw[(X4.ak b (ox.lt b hb) (by rw[x9 b hb];decide)).1];exact x9 b hb
    refine aP (by simp) ?_
    refine xp ox4.ints iy (by omega) ?_
    have hxn:x.n=(r.next s).2.2.1.length:=ox4.ints.len
    refine CO ox4 (by rw[hxn];omega) (Lh _) λD m5=>?_
    rw[decide_eq_true (rfl:(r.next s).2.2.1=(r.next s).2.2.1)]
    have X5:CS (λi=>i=9) c4 c4 C D:=⟨m5.size,λb hb hn=>⟨rfl,m5.same b hb λq=>hn (x94 b q)⟩⟩
    have h5:=h4.bf X5 (by decide) (by decide) (.inl ⟨by decide,rfl⟩) (.inl ⟨by decide,rfl⟩) (.inl ⟨by decide,rfl⟩) (.inl ⟨by decide,rfl⟩) (.inl ⟨by decide,rfl⟩) (.inl ⟨by decide,rfl⟩)
    exact hK D ⟨_,_,_,_,_,_,_,_,_,h5,(hb.next (by omega)).mono (by omega) (by omega),.on hV n1 (λw e=>⟨(hw w e).1,Nu (hw w e).2⟩) (.some n2 k2)⟩
 ·-- Seek
  refine cM rfl (aw rfl (cM rfl (aw rfl (aw rfl (cM rfl (aw rfl ?_))))))
  refine vz h1.hd.row (i:=7) (a:=a7) rfl rfl ?_
  cases hcal with
  |nil hn=>
    have e7:a7=none:=h1.r2
    subst e7
    exact aw rfl (cM rfl (aw rfl (aw rfl (same h1))))
  |on hV hs hw hr=>
    rename_i V
    cases hr with
    |none=>
      have e7:a7=none:=h1.r2
      subst e7
      exact aw rfl (cM rfl (aw rfl (aw rfl (same h1))))
    |some hr hq=>
    rename_i r q
    have h7:a7.isNone=false:=by obtain⟨_,_,_,rfl,_⟩:=h1.r2;rfl
    refine aP (by rw[h7];rfl) ?_
    refine⟨λB=>aj B pb wS #[.int .i64 kd,l.v,.int .i64 W]/\aj B bb F8 (gP dp dm p m a4 a5 a6 a7),⟨rp,h1.hd.row⟩,?_⟩
    refine h1.hd.row.ld (c:=ar) (i:=6) (x:=a6) rfl ?_
    refine aj.eP (c:=av) (i:=1) (x:=l) (cs:=λ_=>#[.int .i64 kd,l.v,.int .i64 W]) (λB g=>g.1) (λ_ _=>rfl) ?_
    obtain⟨hl1,hl10⟩:=h1.hd.ints hl
    obtain⟨n1,n2⟩:=hr.bS hs hV ll
    refine DT h1 hg hb hx hy hr hs hV hl1 hl10 (λe=>by rw[hr.width] at e;omega) λB c3 X3 h3=>?_
    refine⟨⟨rp.mod X3.mod (by show ¬_;rw[c8];decide),h3.hd.row⟩,?_⟩
    refine aj.eP (c:=ar) (i:=7) (x:=a7) (cs:=λ_=>gP dp dm p m a4 a5 a6 a7) (λB g=>g.2) (λ_ _=>rfl) ?_
    refine aj.eP (c:=av) (i:=1) (x:=l) (cs:=λ_=>#[.int .i64 kd,l.v,.int .i64 W]) (λB g=>g.1) (λ_ _=>rfl) ?_
    have key:q.bS s ll=((r.bS s ll).1,(q.bS s ll).2.1,(r.bS s ll).2.2)/\(∀q':RR,q'.Ok->(q'=(q.bS s ll).2.1\/q'.b=(q.bS s ll).2.1.b/\q'.b.ready≠0)->Rel (r.bS s ll).2.1 q')/\q.Ok/\q.b.name=nmF/\q.b.width=V:=by
     rcases hq with rfl|⟨u1,u2,u3⟩
     ·exact⟨rfl,λq' v1 v2=>v2.elim .inl λv=>.inr ⟨v.1,by rw[<-v.1];exact v.2,v1⟩,hr.ok,hr.name,hr.width⟩
     ·have u4:q.b.ready≠0:=by rw[u1];exact u2
      rw[RR.sq u4,RR.sq u2]
      refine⟨by rw[u1],λq' v1 v2=>?_,u3,by rw[u1];exact hr.name,by rw[u1];exact hr.width⟩
      have v3:q'.b=r.b:=v2.elim (λv=>by rw[v];exact u1) λv=>v.1.trans u1
      exact .inr ⟨v3,u2,v1⟩
    obtain⟨k1,k2,k3,k4,k5⟩:=key
    obtain⟨hl3,hl30⟩:=h3.hd.ints hl
    have hbs:=hb.bS (by omega) hr.ok ll
    refine BX h3 hb hx hy k3 k4 hl3 hl30 (λe=>by rw[k5] at e;omega) λC c4 q' X4 h4 v1 v2=>?_
    rw[k1] at h4
    have e9:(q.bS s ll).2.2=(r.bS s ll).2.2:=by rw[k1]
    rw[e9,beq_self_eq_true]
    exact hK C ⟨_,_,_,_,_,_,_,_,_,h4,hbs.mono (by omega) (by omega),.on hV n1 (λw e=>⟨(hw w e).1,Nu (hw w e).2⟩) (.some n2 (k2 q' v1 v2))⟩
 ·-- Close of the reader
  refine cM rfl (aw rfl (cM rfl (aw rfl (aw rfl (cM rfl (aw rfl (cM rfl (aw rfl ?_))))))))
  refine vz h1.hd.row (i:=7) (a:=a7) rfl rfl ?_
  cases hcal with
  |nil hn=>
    have e7:a7=none:=h1.r2
    subst e7
    exact aw rfl (aw rfl (same h1))
  |on hV hs hw hr=>
    rename_i V
    cases hr with
    |none=>
      have e7:a7=none:=h1.r2
      subst e7
      exact aw rfl (aw rfl (same h1))
    |some hr hq=>
    rename_i r q
    have h7:a7.isNone=false:=by obtain⟨_,_,_,rfl,_⟩:=h1.r2;rfl
    refine aP (by rw[h7];rfl) ?_
    refine h1.hd.row.ld (c:=ar) (i:=6) (x:=a6) rfl ?_
    refine BM h1 λB X3 h3=>?_
    refine h3.hd.row.ld (c:=ar) (i:=7) (x:=a7) rfl ?_
    refine DF h3 λC X4 h4=>?_
    have k2:Rel r.stop q.stop:=by
     rcases hq with rfl|⟨u1,u2,u3⟩
     ·exact .inl rfl
     ·exact .inr ⟨by show ({q.b with closed:=true}:Rb)=_;rw[u1];rfl,r.b.yC,u3.room,u3.at_,u3.page,u3.rows,u3.cols⟩
    exact hK C ⟨_,_,_,_,_,_,_,_,_,h4,hb.mono (by omega) (by omega),.on hV hs (λw e=>⟨(hw w e).1,Nu (hw w e).2⟩) (.some hr.stop k2)⟩
 ·-- Make
  refine cM rfl (aw rfl (cM rfl (aw rfl (aw rfl (cM rfl (aw rfl (cM rfl (aw rfl (cM rfl (aw rfl (aP rfl ?_)))))))))))
  refine hwid ?_
  obtain⟨o1,o2⟩:=hcal.make (W:=W)
  exact wz h1 hg hb hx hy (λe B c' g=>hK B ⟨_,_,_,_,_,_,_,_,_,g,(hb.make (by omega)).mono (by omega) (by omega),o1 e⟩) (λr e B c' b6 b7 g=>hK B ⟨_,_,_,_,_,_,_,_,_,g,(hb.make (by omega)).mono (by omega) (by omega),o2 r e⟩)
end
set_option maxHeartbeats 2000000 in
theorem zO {H0 A:Heap}{c:Nat->Nat}{bb dp dm p m:Nat}{s:Pl}{w1 w2:Option RW}{r1 r2:Option RR}{a4 a5 a6 a7:Option Addr}{K:Bool->Heap->Prop}(h:il H0 A c bb dp dm p m s s w1 w2 r1 r2 a4 a5 a6 a7)(hg:Gl H0)(hnx:s.next<1099511627776)(hl:s.d.logs<34359738368)
  (hK:∀B,Ext H0 B->K true B):FA.sp (aD bb) A K:=by
 refine FA.of ?_
 unfold FA.vc
 simp only[aq,aD]
 have gA:=h.hd.gl hg
 have e0:Ext H0 A:=⟨h.hd.size,λb hb _=>(h.hd.old b hb).2⟩
 obtain⟨F1,c1,f1⟩:=h.p1
 obtain⟨F2,c2,f2⟩:=h.p2
 obtain⟨D1,a1,i1,_⟩:=c1.ba gA
 obtain⟨D2,a2,i2,_⟩:=c2.ba
 obtain⟨ll,hh,hll,hFm⟩:=c2.head
 have rb:=h.hd.row
 have a2':=a2
 obtain⟨fl,gs,cin,kp,g,hF2⟩:=a2'
 have hG:∀{B:Heap},Ext A B->aj B bb F8 (gP dp dm p m a4 a5 a6 a7)/\aj B dm uR (dt fl s.d.most s.d.quota s.d.ops s.d.next s.d.crash.isSome cin kp s.d.down)/\aj B m pY (dL dm ll s):=λe=>⟨rb.ext e,g.head.ext e,hh.ext e⟩
 refine⟨λB=>aj B bb F8 (gP dp dm p m a4 a5 a6 a7)/\aj B dm uR (dt fl s.d.most s.d.quota s.d.ops s.d.next s.d.crash.isSome cin kp s.d.down)/\aj B m pY (dL dm ll s),hG (.refl _ _),?_⟩
 refine rb.ld (c:=ar) (i:=0) (x:=aD dp) rfl ?_
 refine Ic a1 ⟨hG (.refl _ _),?_⟩
 refine aj.eP (c:=ar) (i:=1) (x:=aD dm) (cs:=λ_=>gP dp dm p m a4 a5 a6 a7) (λB q=>q.1) (λ_ _=>rfl) ?_
 refine dv _ rfl ⟨s.d.ops,λA hA=>by rw[aX];exact hA.2.1.cell rfl,aw (by simp) ?_⟩
 refine rb.ld (c:=ar) (i:=0) (x:=aD dp) rfl ?_
 refine FK a1 ⟨hG (.refl _ _),?_⟩
 refine aj.eP (c:=ar) (i:=1) (x:=aD dm) (cs:=λ_=>gP dp dm p m a4 a5 a6 a7) (λB q=>q.1) (λ_ _=>rfl) ?_
 refine dv _ rfl ⟨s.d.down,λA hA=>by rw[aX];exact hA.2.1.cell rfl,aw (by simp) ?_⟩
 refine rb.ld (c:=ar) (i:=2) (x:=aD p) rfl ?_
 refine wm c1 ⟨hG (.refl _ _),?_⟩
 refine aj.eP (c:=ar) (i:=3) (x:=aD m) (cs:=λ_=>gP dp dm p m a4 a5 a6 a7) (λB q=>q.1) (λ_ _=>rfl) ?_
 refine dv _ rfl ⟨ll,λA hA=>by rw[aX];exact hA.2.2.cell rfl,aw (by rw[hll];simp) ?_⟩
 refine rb.ld (c:=ar) (i:=2) (x:=aD p) rfl ?_
 refine zX c1 (by omega) λA1 e1=>⟨hG e1,?_⟩
 refine aj.eP (c:=ar) (i:=3) (x:=aD m) (cs:=λ_=>gP dp dm p m a4 a5 a6 a7) (λB q=>q.1) (λ_ _=>rfl) ?_
 refine vC (c2.ext e1) (aw (by simp) ?_)
 have rb1:=rb.ext e1
 have b1:=a1.ak λb hb hbl=>e1.same b hbl id
 have b2:=a2.ak λb hb hbl=>e1.same b hbl id
 have f1A:∀b,D1 b->c b=1:=λb hb=>f1 b (i1 b hb)
 have f2A:∀b,D2 b->c b=2:=λb hb=>f2 b (i2 b hb)
 have dj:∀b,D1 b->¬D2 b:=λb hb q=>by have:=f1A b hb;rw[f2A b q] at this;exact absurd this (by decide)
 have o1:∀b,D1 b->H0.size<=b:=λb hb=>RN λq=>by have:=(h.hd.old b q).1;rw[f1A b hb] at this;exact absurd this (by decide)
 have o2:∀b,D2 b->H0.size<=b:=λb hb=>RN λq=>by have:=(h.hd.old b q).1;rw[f2A b hb] at this;exact absurd this (by decide)
 have n1:¬D1 bb:=λq=>by have:=f1A bb q;rw[h.hd.cb] at this;exact absurd this (by decide)
 have n2:¬D2 bb:=λq=>by have:=f2A bb q;rw[h.hd.cb] at this;exact absurd this (by decide)
 have e01:Ext H0 A1:=e0.trans e1
 refine rb1.ld (c:=ar) (i:=0) (x:=aD dp) rfl ?_
 have l2:=b2.lt
 refine w7 b1 (by omega) λD1' B1 q1 S1=>?_
 have rb2:=rb1.mod S1.mod n1
 refine rb2.ld (c:=ar) (i:=1) (x:=aD dm) rfl ?_
 have a2B:cr D2 B1 dm s.d:=b2.ak λb hb hbl=>S1.mod.same b hbl λq=>dj b q hb
 refine vV a2B (by omega) λD2' B2 q2 S2=>?_
 have rb3:=rb2.mod S2.mod n2
 have dj':∀b,D1' b->¬D2 b:=λb hb h2=>by
  rcases S1.own b hb with q|q
  ·exact dj b q h2
  ·have:=l2 b h2;omega
 have b1':bj D1' B2 dp s.d.cG:=q1.ak λb hb hbl=>S2.mod.same b hbl (dj' b hb)
 have e2:Ext H0 B2:=⟨Lc e01.size (Lc S1.mod.size S2.mod.size),λb hb _=>(S2.mod.same b (by have:=e01.size;have:=S1.mod.size;omega) λq=>by have:=o2 b q;omega).trans ((S1.mod.same b (by have:=e01.size;omega) λq=>by have:=o1 b q;omega).trans (e01.same b hb id))⟩
 have hlr:=s.d.ua
 generalize s.d.cG=t at*
 have hll:t.list.length<=4096:=by
  unfold Dk.list
  split
  ·simp
  ·rw[(List.mergeSort_perm _ _).length_eq];simp;exact q2.wf.files
 refine rb3.ld (c:=ar) (i:=0) (x:=aD dp) rfl ?_
 refine Fb b1' λl B3 o3 m3 g3=>?_
 refine(rb3.ext m3).ld (c:=ar) (i:=1) (x:=aD dm) rfl ?_
 refine DH (q2.ak λb hb hbl=>m3.same b hbl id) λl2 B4 o4 m4 g4=>?_
 refine ug (o3.ext m4) o4 (by omega) ?_
 refine aw rfl ?_
 have m24:Ext B2 B4:=m3.trans m4
 have d1:bj D1' B4 dp t:=b1'.ak λb hb hbl=>m24.same b hbl id
 have d2:cr D2' B4 dm t:=q2.ak λb hb hbl=>m24.same b hbl id
 have rb4:=rb3.ext m24
 have o5:aK EN iA B4 l t.list:=o3.ext m4
 have hn:=aK.n o5 (by decide)
 have e5:Ext H0 B4:=e2.trans m24
 refine ay t.list.length (λk x B=>x=(k:Int)/\Ext B4 B) ⟨rfl,.refl _ _⟩ ?_
 rintro k _ B6 next hk ⟨rfl,e6⟩ hnext
 refine ae (λhc=>?_) (λhc=>hK B6 (e5.trans e6))
 have hlt:k<t.list.length:=by rw[hn] at hc;simpa using hc
 have txt:∀{B:Heap} {K:ByteArray->Prop},Ext B4 B->K (cu t.list[k])->ab l.a λa=>(0<=(k:Int)/\(k:Int)<(l.n:Int))/\ld aV B (a.add ((k:Int).toNat*1)) K:=λe h=>pU (o5.ext e) hlt h
 refine(rb4.ext e6).ld (c:=ar) (i:=1) (x:=aD dm) rfl ?_
 refine txt e6 ?_
 generalize cu t.list[k]=nm at*
 refine nc (d2.ak λb hb hbl=>e6.same b hbl id) (by omega) λB7 e7=>?_
 have hlen:=Dk.kM d2.wf nm
 refine ay ((t.len nm).1+1) (λj x B=>x=(j:Int)/\Ext B4 B) ⟨rfl,e6.trans e7⟩ ?_
 rintro j _ B8 next2 hj ⟨rfl,e8⟩ hnext2
 refine ae (λhc2=>?_) (λhc2=>hnext hlt _ _ ⟨aI k (by omega),e8⟩)
 have hjl:j<(t.len nm).1+1:=by simp at hc2;omega
 refine(rb4.ext e8).ld (c:=ar) (i:=0) (x:=aD dp) rfl ?_
 refine txt e8 ?_
 refine yY (d1.ak λb hb hbl=>e8.same b hbl id) λr9 B9 o9 e9 g9=>?_
 refine(rb4.ext (e8.trans e9)).ld (c:=ar) (i:=1) (x:=aD dm) rfl ?_
 refine txt (e8.trans e9) ?_
 refine Cq (d2.ak λb hb hbl=>(e8.trans e9).same b hbl id) (by omega) λr10 B10 o10 e10 g10=>?_
 refine aw (by simp) ?_
 refine jD (bY (o9.ext e10)) ?_
 refine jD o10 ?_
 refine aw (by simp) ?_
 exact hnext2 hjl _ _ ⟨aI j (by omega),(e8.trans e9).trans e10⟩
abbrev dz:=Int×Sl×Int
def Ft:fN dz:=⟨3,λx=>[.int .i64 x.1,x.2.1.v,.int .i64 x.2.2],λ_=>rfl,λx u hu=>by simp at hu;rcases hu with rfl|rfl|rfl<;>rfl⟩
def dz.Es (H:Heap)(x:dz):Prop:=∃ll,Ints .u64 H x.2.1 ll/\jW ll/\ll.length<=17592186043904
section
variable {H A:Heap}{script:Sl}{xs:List dz}{R:Bool->Heap->Prop}
structure JC (H A:Heap)(bb dp dm:Nat)(d:Dk):Prop where
 at_:∃D1 D2,bj D1 A dp d/\cr D2 A dm d/\(∀b,D1 b->¬D2 b)/\(∀b,D1 b->H.size<=b/\b≠bb)/\(∀b,D2 b->H.size<=b/\b≠bb)
 row:aj A bb F8 #[.pointer (aD dp),.pointer (aD dm),.pointer none,.pointer none,.pointer none,.pointer none,.pointer none,.pointer none]
 ext:Ext H A
 bb:H.size<=bb
 logs:d.logs=0
 files:d.files=[]
set_option maxHeartbeats 2000000 in
theorem zU {quota ah q ak:Int}{K:(Option Addr×Bool)->Heap->Prop}(hg:Gl H)(hq:quota<=9223372036854775807)(hp:q<=9223372036854775807)
  (hK:∀B bb dp dm p m,BT H B bb dp dm p m 0->K (aD bb,true) B):G6.sp quota ah q ak H K:=by
 refine G6.of ?_
 unfold G6.vc
 refine yB hq λF1 d H1 a1 e1 f1=>?_
 refine Fq hq λF2 n H2 a2 e2 f2=>?_
 have a1':bj F1 H2 d (gm quota):=a1.ak λb hb hbl=>e2.same b hbl id
 have l1:=a1.lt
 have l2:=a2.lt
 have l1':=a1'.lt
 have dj:∀b,F1 b->¬F2 b:=λb hb hb2=>by have:=l1 b hb;have:=f2 b hb2;omega
 refine ao λH3 z3 r3 e3=>?_
 obtain⟨bb,hbb⟩:∃bb,bb=H2.size:=⟨_,rfl⟩
 rw[<-hbb] at r3 ⊢
 have z1:=e1.size;have z2:=e2.size
 have g0:JC H H3 bb d n (gm quota):=⟨⟨F1,F2,a1'.ak λb hb hbl=>e3.same b hbl id,a2.ak λb hb hbl=>e3.same b hbl id,dj,λb hb=>⟨f1 b hb,by have:=l1' b hb;omega⟩,λb hb=>⟨Lc z1 (f2 b hb),by have:=l2 b hb;omega⟩⟩,r3,(e1.trans e2).trans e3,by omega,rfl,rfl⟩
 refine⟨λ_ A=>∃sd,JC H A bb d n sd,?_,?_⟩
 ·refine ae (λhcr=>?_) (λhcr=>⟨_,g0⟩)
  obtain⟨D1,D2,b1,b2,dj1,o1,o2⟩:=g0.at_
  refine r3.ld (c:=ar) (i:=0) (x:=aD d) rfl ?_
  refine Cb b1 hp λD1' A1 c1 S1=>?_
  have k2:cr D2 A1 n (gm quota):=b2.ak λb hb hbl=>S1.mod.same b hbl λq=>dj1 b q hb
  have r4:=r3.mod S1.mod λu=>(o1 bb u).2 rfl
  refine r4.ld (c:=ar) (i:=1) (x:=aD n) rfl ?_
  refine zK k2 hp λD2' A2 c2 S2=>?_
  have lk2:=k2.lt;have lb2:=b2.lt;have lc1:=c1.lt;have hb3:=aG r3
  have zs1:=S1.mod.size;have zs2:=S2.mod.size;have z3':=e3.size
  have dj2:∀b,D1' b->¬D2 b:=λb hb hb2=>by
   rcases S1.own b hb with u|u
   ·exact dj1 b u hb2
   ·have:=lb2 b hb2;omega
  refine⟨_,⟨⟨D1',D2',c1.ak λb hb hbl=>S2.mod.same b hbl (dj2 b hb),c2,λb hb hb2=>?_,λb hb=>?_,λb hb=>?_⟩,r4.mod S2.mod λu=>(o2 bb u).2 rfl,⟨by omega,λb hb _=>?_⟩,by omega,by rw[Dk.rX];rfl,by unfold Dk.cD;split<;>rfl⟩⟩
  ·rcases S2.own b hb2 with u|u
   ·exact dj2 b hb u
   ·have:=lc1 b hb;omega
  ·rcases S1.own b hb with u|u
   ·exact o1 b u
   ·exact⟨by omega,by omega⟩
  ·rcases S2.own b hb with u|u
   ·exact o2 b u
   ·exact⟨by omega,by omega⟩
  ·exact(S2.mod.same b (by omega) λu=>by have:=(o2 b u).1;omega).trans ((S1.mod.same b (by omega) λu=>by have:=(o1 b u).1;omega).trans (g0.ext.same b hb id))
 rintro _ A ⟨sd,g⟩
 have gA:Gl A:=hg.mod g.ext id
 have hgs:=hg.lt
 refine u6 (by omega) ?_
 rw[if_neg (by omega)]
 obtain⟨j,hj⟩:∃j:Nat,ah.emod 12=(j:Int):=⟨(ah.emod 12).toNat,(Int.toNat_of_nonneg (Oj ah (by decide))).symm⟩
 have hj12:(j:Int)<12:=hj▸Ol ah (by decide)
 rw[hj,wrap64 (by omega) (by omega)]
 have hm:(8:Int)+(j:Int)=((8+j:Nat):Int):=by omega
 rw[hm]
 obtain⟨D1,D2,b1,b2,dj1,o1,o2⟩:=g.at_
 have lb1:=b1.lt;have lb2:=b2.lt;have hbl:=aG g.row
 refine g.row.ld (c:=ar) (i:=0) (x:=aD d) rfl ?_
 refine qL gA b1 (λu=>by have:=(o1 _ u).1;omega) (by omega) (by omega) λP1 p B1 h1 x1 w1=>?_
 refine(g.row.ext x1).ld (c:=ar) (i:=1) (x:=aD n) rfl ?_
 refine DS (b2.ak λb hb hbl=>x1.same b hbl id) (by omega) (by omega) λP2 m B2 h2 x2 w2=>?_
 have lp1:=h1.lt;have lp2:=h2.lt
 have s1:=x1.size;have s2:=x2.size;have s0:=g.ext.size
 refine((g.row.ext x1).ext x2).st (i:=2) (by simp) rfl λB3 r5 m5 z5=>?_
 refine r5.st (i:=3) (by simp) rfl λB4 r6 m6 z6=>?_
 have m46:Mod (λb=>b=bb) B2 B4:=m5.trans' m6 λb _ u=>u
 have q1:∀b,P1 b->H.size<=b/\b≠bb:=λb hb=>(w1 b hb).elim (o1 b) λu=>⟨by omega,by omega⟩
 have q2:∀b,P2 b->H.size<=b/\b≠bb/\¬P1 b:=λb hb=>(w2 b hb).elim (λu=>⟨(o2 b u).1,(o2 b u).2,λv=>(w1 b v).elim (λv=>dj1 b v u) λv=>by have:=lb2 b u;omega⟩) λu=>⟨by omega,by omega,λv=>by have:=lp1 b v;omega⟩
 have t1:=(h1.ext x2).ak λb hb hbl=>m46.same b hbl (q1 b hb).2
 have t2:=h2.ak λb hb hbl=>m46.same b hbl (q2 b hb).2.1
 have e4:Ext H B4:=⟨by have:=m46.size;omega,λb hb _=>(m46.same b (by omega) (by have:=g.bb;omega)).trans (((g.ext.trans x1).trans x2).same b hb id)⟩
 refine hK B4 bb d n p m ⟨λb=>open Classical in if b<H.size then 0 else if P1 b then 1 else if P2 b then 2 else if b=bb then 7 else 9,pl0 sd (8+j),none,none,none,none,none,none,none,⟨⟨r6,?_,λb hb=>⟨if_pos hb,e4.same b hb id⟩,e4.size⟩,⟨P1,t1,λb hb=>?_⟩,⟨P2,t2,λb hb=>?_⟩,rfl,rfl,rfl,rfl⟩,⟨by intro f hf;simp[pl0] at hf,by show (0:Int)<=1;decide,by show (1:Int)<=_;omega,by show sd.logs<=_;rw[g.logs];omega⟩,.nil (Pl.AllP.pl0 λf hf=>by rw[g.files] at hf;cases hf)⟩
 ·rw[if_neg (by have:=g.bb;omega),if_neg λu=>(q1 bb u).2 rfl,if_neg λu=>(q2 bb u).2.1 rfl,if_pos rfl]
 ·exact(if_neg (TD.2 (q1 b hb).1)).trans (if_pos hb)
 ·exact((if_neg (TD.2 (q2 b hb).1)).trans (if_neg (q2 b hb).2.2)).trans (if_pos hb)
set_option maxHeartbeats 2000000 in
theorem uE {quota ah width p ak:Int}(hg:Gl H)(hq:quota<=9223372036854775807)(hp:p<=9223372036854775807)(hx:cS Ft H script.a xs)(hn:script.n=xs.length)(hf:∀x∈xs,dz.Es H x)
  (hK:∀B,Ext H B->R true B):yc.sp quota ah width script p ak H R:=by
 refine yc.of ?_
 unfold yc.vc
 refine ae (λ_=>hK H (.refl _ _)) (λhc=>?_)
 have hxl:xs.length<=200:=by rw[hn] at hc;simp at hc;omega
 refine zU hg hq hp λA bb dp dm p m t0=>?_
 refine aw rfl ?_
 obtain⟨c,s,ow,r1,r2,a4,a5,a6,a7,h,hb,hcal⟩:=t0
 have step:∀{B:Heap},BT H B bb dp dm p m 1->br (!true) (R false B) (aC Int (0:Int) B λnext i H3=>br (decide (i<(script.n:Int))) (ab script.a λa=>(0<=i/\i<(script.n:Int))/\dI (dr [(aa .i64),av,(aa .i64)]) 3 H3 (a.add (i.toNat*3)) λ(x:(Int×Sl×Int))=>Fs.sp (aD bb) x.1 x.2.1 x.2.2 H3 λ(r_2:Bool) H4=>br (!r_2) (R false H4) (next (KG.wrap (i+(1:Int))) H4)) (FA.sp (aD bb) H3 λ(r_3:Bool) H5=>br r_3 (CC.sp H5 λ(r_4:Bool) H6=>R r_4 H6) (R false H5))):=λ{B} t=>by
  refine aw rfl ?_
  refine ay xs.length (λk i B=>i=(k:Int)/\BT H B bb dp dm p m (k+1)) ⟨rfl,t⟩ ?_
  rintro k _ C next hk ⟨rfl,t⟩ hnext
  refine ae (λhc=>?_) (λhc=>?_)
  ·have hlt:k<xs.length:=by rw[hn] at hc;simpa using hc
   have hxk:xs[k]?=some xs[k]:=KJ hlt
   have hfk:=hf _ (KH hxk)
   have t':=t
   obtain⟨_,_,_,_,_,_,_,_,_,g,_,_⟩:=t'
   have hxB:cS Ft C script.a xs:=hx.ak λad _ hal=>(g.hd.old _ hal).2
   obtain⟨ad,ha⟩:=cS.addr hxB (by decide) (by omega)
   rw[ha]
   refine⟨⟨by omega,by omega⟩,?_⟩
   obtain⟨⟨x,x1,x2⟩,hxe⟩:∃y,y=xs[k]:=⟨_,rfl⟩
   rw[<-hxe] at hxk hfk
   refine cS.dI (E:=Ft) (c:=dr [(aa .i64),av,(aa .i64)]) (y:=(x,x1,x2)) hxB ha hxk rfl (by simp[Ft]) rfl ?_
   obtain⟨ll,g1,g2,g3⟩:=hfk
   refine zI t hg (by omega) g1 g2 g3 λD t2=>?_
   refine aw rfl ?_
   exact hnext hlt _ _ ⟨aI k (by omega),t2⟩
  ·obtain⟨c,s,ow,r1,r2,a4,a5,a6,a7,h,hb,hcal⟩:=t
   have hi:=hb.hi;have hl:=hb.logs
   refine zO h hg (by omega) (by omega) λD e=>?_
   refine aP rfl ?_
   exact oU (hg.mod e id) λE e2=>hK E (e.trans e2)
 have hx:40*0+50<1000000:=by omega
 have hy:4300*0+5000<100000000:=by omega
 obtain⟨o1,o2⟩:=hcal.make (W:=width)
 exact wz h hg hb hx hy (λe B c' g=>step ⟨_,_,_,_,_,_,_,_,_,g,(hb.make (by omega)).mono (by omega) (by omega),o1 e⟩) (λr e B c' b6 b7 g=>step ⟨_,_,_,_,_,_,_,_,_,g,(hb.make (by omega)).mono (by omega) (by omega),o2 r e⟩)
end
def oS:List (List Int):=(List.range 70).map λ(i:Nat)=>[(i:Int)]
theorem ni:oS.length=70:=by simp[oS]
theorem CV {i:Nat}(h:i<70):oS.getD i []=[(i:Int)]:=by
 simp[oS,Lo,List.getElem?_map,List.getElem?_range h]
theorem xz:iv 1 oS:=by
 refine⟨λl hl=>?_,λl hl x hx=>?_,λi hi=>?_⟩
 ·obtain⟨i,_,rfl⟩:=KZ.1 hl;rfl
 ·obtain⟨i,hi,rfl⟩:=KZ.1 hl
  have:=List.mem_range.1 hi
  simp at hx;omega
 ·rw[ni] at hi
  rw[CV (by omega),CV hi]
  unfold bz
  rw[if_pos (by omega)];decide
def Sp (j:Nat)(T:Nat->UInt8×List UInt8):Prop:=
 if j=0 then T 0=(1,[1,0,0,0,0,0,0,0,70])
 else if j=1 then T 0=(2,bL 1 70)/\(T 1).1=2
 else if j=2 then T 0=(2,bL 1 70)/\T 2=(1,KY 8 0)
 else T 0=(2,[[1,2,3,1].getD (j - 3) 0,0,0,0,0,0,0,0,[125,125,125,130].getD (j - 3) 0])
theorem zw {A:Heap}{b:Nat}{l:List UInt8}(r:aj A b dF (fk l).toArray):bG A (Sl.mk (some ⟨b,0,none⟩) l.length l.length) l:=by
 have h:(fk l).length=l.length:=by simp[fk]
 refine⟨by simp[dy],λi v hv=>⟨_,rfl,?_⟩⟩
 rw[aX]
 exact r.cell (by rw[M3,<-dN];exact hv)
section
variable {H A:Heap}{p d:Nat}{s:Pl}{T:Nat->UInt8×List UInt8}
theorem lD {J:Unit->Heap->Prop}{k:Nat}{x:Int}{kd:UInt8}{b:List UInt8}{sl:Sl}(hg:Gl H)(t:TP H A p d s)(h:bX s T)(hx:Hd s k x)(hb:b.length<=504)(hs:bG A sl b)
  (hK:∀B,TP H B p d (s.set x kd b).1->bX (s.set x kd b).1 (lO T k (kd,b))->(∀k' y,Hd s k' y->Hd (s.set x kd b).1 k' y)->(s.set x kd b).1.next=s.next->J () B):nW.sp (aD p) x (kd.toNat:Int) sl A λ_ B=>J () B:=by
 obtain⟨q1,q2,q3,q4⟩:=h.set t.wf hx (c:=kd) hb
 exact TP.put t hg hs q1 λB t2=>hK B t2 q2 q3 q4
theorem w8 {J:Unit->Heap->Prop}{k:Nat}{x z:Int}{b:List UInt8}{sl:Sl}(hg:Gl H)(t:TP H A p d s)(h:bX s T)(hx:Hd s k x)(hz:Hd s 0 z)(hne:x≠z)(hnx:s.next<1099511627776)(hb:b.length<=504)(hs:bG A sl b)(hl:s.d.logs<=30)
  (hK:∀B s',TP H B p d s'->bX s' (lO T 0 (2,b))->Hd s' k x->s'.next=s.next->s'.d.logs<=30->J () B):nW.sp (aD p) z (2:Int) sl A λ_ H2=>True/\rk.sp (aD p) z H2 λ_ H3=>J () H3:=by
 refine lD (J:=λ_ B=>True/\rk.sp (aD p) z B λ_ H3=>J () H3) (kd:=2) hg t h hz hb hs λB t2 q2 q3 q4=>⟨trivial,?_⟩
 obtain⟨u1,u2,u3⟩:=q2.aB t2.wf (q3 0 z hz)
 refine TP.aB t2 hg (by omega) rfl λC t3=>?_
 exact hK C _ t3 u1 (u2 k x hne (q3 k x hx)) (u3.trans q4) (by rw[Pl.lL,Pl.rm];exact hl)
end
set_option maxHeartbeats 4000000 in
theorem AI {H:Heap}{K:Bool->Heap->Prop}(hg:Gl H)(hK:∀B,Ext H B->K true B):Hx.sp H K:=by
 refine Hx.of ?_
 unfold Hx.vc
 have hsz:nmF.size<=9223372036854775807:=by decide
 refine ay 7 (λj i B=>i=(j:Int)/\Ext H B) ⟨rfl,.refl _ _⟩ ?_
 rintro j _ H1 next hj ⟨rfl,e1⟩ hnext
 refine ae (λhc=>?_) (λhc=>hK H1 e1)
 have hj7:j<7:=by simp at hc;omega
 have g1:Gl H1:=hg.mod e1 id
 have fin:∀{B},Ext H1 B->next (KG.wrap ((j:Int)+1)) B:=λ{B} e=>hnext hj7 _ _ ⟨aI j (by omega),e1.trans e⟩
 refine yB (by decide) λF1 d H2 a1 e2 f1=>?_
 refine TP.new (m:=8) g1 e2 a1 f1 (by decide) (by decide) λp H3 t3=>?_
 obtain⟨m2,m3⟩:=(yJ (q:=20) (n:=nmF) (W:=1) (rs:=oS) (by decide) (by decide) sY hsz (by decide) (by decide)).1 (by decide)
 have mb:=lS (s:=pl0 (gm 20) 8) (n:=nmF) (W:=1) (by decide) (by decide)
 have z1:(pl0 (gm 20) 8).d.logs=0:=rfl
 have z2:(pl0 (gm 20) 8).next=1:=rfl
 rw[z1,z2] at mb
 refine TP.make (n:=nmF) (W:=1) t3 g1 hsz (by rw[z1];decide) (by decide) (by decide) (λf hf=>by cases hf) m2 (λq=>by cases q) λw q k H4 t4=>?_
 cases q
 have m3':gD (aJ (pl0 (gm 20) 8) nmF 1).1 (rA nmF 1) nmF 1 (bC 1) oS 20 0:=m3
 have t4':TW H1 H4 k p d (aJ (pl0 (gm 20) 8) nmF 1).1 (rA nmF 1):=t4
 generalize (aJ (pl0 (gm 20) 8) nmF 1).1=s4 at*
 have r63:bC 1=63:=rfl
 have fits:∀{s:Pl} {w:RW} {i:Nat},gD s w nmF 1 (bC 1) oS 20 i->s.Fit/\0<=s.next:=λh=>by
  obtain⟨T,c,_⟩:=h.calm
  exact⟨c.fit,h.next.1⟩
 refine ay 70 (λi x B=>x=(i:Int)/\∃s w,TW H1 B k p d s w/\gD s w nmF 1 (bC 1) oS 20 i/\s.d.logs<=2*i+2) ⟨rfl,_,_,t4',m3',by omega⟩ ?_
 rintro i _ B nx hi ⟨rfl,s,w,t,r,hl⟩ hnx
 refine ae (λhc=>?_) (λhc=>?_)
 ·have hi7:i<70:=by simp at hc;omega
  rw[BQ (by omega)]
  refine ao λC z rr x=>?_
  have A1:=(r.add (by decide) (by decide) xz (by rw[ni];exact hi7) hsz (by decide) (by rw[ni];decide)).1 (by rw[r63];omega)
  rw[CV hi7] at A1
  have b1:=RW.mz (s:=s) (w:=w) (l:=[(i:Int)]) (fits r).2 (by have:=r.next;omega)
  have hw:w.wait.length<=1000000:=by
   rw[r.wait,fI (W:=1) (by decide) (λl hl=>xz.len l (List.mem_of_mem_drop (List.mem_of_mem_take hl)))]
   have h8:vf 1=8:=rfl
   have h9:((oS.drop (i/bC 1*bC 1)).take (i%bC 1)).length<=i%bC 1:=List.length_take_le _ _
   have h10:=MZ i (show 0<bC 1 by decide)
   rw[r63] at h10 h9 ⊢
   rw[h8];omega
  have hwn:w.n<1099511627776:=by
   rw[r.n]
   have h10:=MZ i (show 0<bC 1 by decide)
   rw[r63] at h10 ⊢;omega
  refine TW.add t x g1 (fx rr) (λad ha=>by cases ha;exact .inl (KN _)) (by simp) hw (by rw[r.rows];omega) hwn (by rw[r.b];exact hsz) (by omega) (by have:=r.next;omega) (fits r).1 A1.1 λD t'=>?_
  exact hnx hi7 _ _ ⟨aI i (by omega),_,_,t',A1.2,by omega⟩
 have hi70:i=70:=by simp at hc;omega
 subst hi70
 have r':gD s w nmF 1 (bC 1) oS 20 oS.length:=by rw[ni];exact r
 obtain⟨c1,c2,c3,fl,c4,_,c5,_,_⟩:=(r'.close (by decide) (by decide) xz hsz (by decide) (by rw[ni];decide)).1 (by rw[ni];decide)
 have hnx0:=r.next
 refine TW.close t g1 (by rw[r.rows];decide) (by rw[r.b];decide) (by rw[r.b];exact hsz) (by omega) (by omega) (fits r).1 c1 λH10 t10=>?_
 have t10p:=t10.ag
 have l10:(w.close s).1.d.logs=0:=by unfold Dk.logs;rw[c4];simp[c5]
 generalize (w.close s).1=s10 at*
 clear t10 t r r' hnx
 rw[ni] at c3
 obtain⟨T,hT,hT0,hTk⟩:=c2.calm
 have hTold:bX s10 T:=by
  obtain⟨pg,tt⟩:=hT.told
  have:1+az oS.length (bC 1)=3:=by rw[ni];decide
  rw[this] at tt
  exact⟨⟨pg,tt⟩⟩
 rw[ni] at hT0
 have hT0':T 0=(2,bL 1 70):=hT0
 obtain⟨k2,hk2⟩:∃k2:Nat,k2=min j 2:=⟨_,rfl⟩
 have hk2':(if (2:Int)<(j:Int) then (2:Int) else (j:Int))=(k2:Int):=by rw[hk2];split<;>omega
 rw[hk2']
 obtain⟨p1,p2,p3,p4,p5,p6⟩:=hTold.aR t10p.wf (by omega) (k:=k2) (by omega)
 have pl:=s10.jf nmF (k2:Int)
 refine TP.aR (n:=nmF) t10p g1 hsz (by omega) (by omega) (by omega) (by omega) p1 λH11 t11=>?_
 generalize hs11:(s10.aR nmF (k2:Int)).1=s11 at*
 have st:∀{B:Heap} {s:Pl} {T:Nat->UInt8×List UInt8},TP H1 B p d s->bX s T->Hd s k2 s10.next->s.next<=100->s.d.logs<=30->Sp j T->∃s T,TP H1 B p d s/\bX s T/\Hd s k2 s10.next/\s.next<=100/\s.d.logs<=30/\Sp j T:=λa b c d e f=>⟨_,_,a,b,c,d,e,f⟩
 refine⟨λ_ B=>∃s T,TP H1 B p d s/\bX s T/\Hd s k2 s10.next/\s.next<=100/\s.d.logs<=30/\Sp j T,?_,?_⟩
 ·rcases (by omega:j=0\/j=1\/j=2\/3<=j) with rfl|rfl|rfl|hj3
  ·subst hk2
   refine aP rfl ?_
   refine ao λC z rr x=>?_
   refine lD (J:=λ_ B=>∃s T,TP H1 B p d s/\bX s T/\Hd s (min 0 2) s10.next/\s.next<=100/\s.d.logs<=30/\Sp 0 T) (kd:=1) (b:=[1,0,0,0,0,0,0,0,70]) g1 (t11.ext x) p2 p4 (by decide) (zw (l:=[1,0,0,0,0,0,0,0,70]) rr) λB t2 q2 q3 q4=>?_
   exact st t2 q2 (q3 _ _ p4) (by omega) (by rw[Pl.rm];omega) (cw _ _ _)
  ·subst hk2
   refine aw rfl (aP rfl ?_)
   refine uu.make (base:=0) (by omega) (Mc _) (by omega) (by omega) (Lh _) λsl C hn o1 x1 f1 ha=>?_
   have hB:bG C sl (KY 504 0):=⟨by rw[gh,Mq];omega,by have:=o1.reads;rw[dN];unfold fk;rw[QE];exact this⟩
   refine lD (J:=λ_ B=>∃s T,TP H1 B p d s/\bX s T/\Hd s (min 1 2) s10.next/\s.next<=100/\s.d.logs<=30/\Sp 1 T) (kd:=2) (b:=KY 504 0) g1 (t11.ext x1) p2 p4 (by rw[Mq];decide) hB λB t2 q2 q3 q4=>?_
   exact st t2 q2 (q3 _ _ p4) (by omega) (by rw[Pl.rm];omega) ⟨by rw[ck (by decide)];exact hT0',by rw[show min 1 2=1 from rfl,cw]⟩
  ·subst hk2
   refine aw rfl (aw rfl (aP rfl ?_))
   refine uu.make (base:=0) (by omega) (Mc _) (by omega) (by omega) (Lh _) λsl C hn o1 x1 f1 ha=>?_
   have hB:bG C sl (KY 8 0):=⟨by rw[gh,Mq];omega,by have:=o1.reads;rw[dN];unfold fk;rw[QE];exact this⟩
   refine lD (J:=λ_ B=>∃s T,TP H1 B p d s/\bX s T/\Hd s (min 2 2) s10.next/\s.next<=100/\s.d.logs<=30/\Sp 2 T) (kd:=1) (b:=KY 8 0) g1 (t11.ext x1) p2 p4 (by rw[Mq];decide) hB λB t2 q2 q3 q4=>?_
   exact st t2 q2 (q3 _ _ p4) (by omega) (by rw[Pl.rm];omega) ⟨by rw[ck (by decide)];exact hT0',by rw[show min 2 2=2 from rfl,cw]⟩
  ·refine aw (by simp;omega) (aw (by simp;omega) (aw (by simp;omega) ?_))
   obtain⟨y1,y2,y3,y4,y5,y6⟩:=p2.aR p3 (by omega) (k:=0) (by decide)
   have yl:=s11.jf nmF 0
   refine TP.aR (n:=nmF) (k:=0) t11 g1 hsz (by omega) (by omega) (by omega) (by omega) y1 λH12 t12=>?_
   have hz:s10.next≠s11.next:=by omega
   have y5':=y5 k2 s10.next p4
   have y6':(s11.aR nmF 0).1.next=s11.next+1:=y6
   have y2':bX (s11.aR nmF 0).1 T:=y2
   have y4':Hd (s11.aR nmF 0).1 0 s11.next:=y4
   have y5'':Hd (s11.aR nmF 0).1 k2 s10.next:=y5'
   generalize (s11.aR nmF 0).1=s12 at*
   have main:∀(a b:UInt8),[1,2,3,1].getD (j - 3) 0=a->[125,125,125,130].getD (j - 3) 0=b->∀{B:Heap},Ext H12 B->aF B #[.int .u8 (a.toNat:Int),.int .u8 0,.int .u8 0,.int .u8 0,.int .u8 0,.int .u8 0,.int .u8 0,.int .u8 0,.int .u8 (b.toNat:Int)] dF λq B2=>True/\nW.sp (aD p) s11.next (2:Int) (Sl.mk (some q) 9 9) B2 λ_ B3=>True/\rk.sp (aD p) s11.next B3 λ_ B4=>∃s T,TP H1 B4 p d s/\bX s T/\Hd s k2 s10.next/\s.next<=100/\s.d.logs<=30/\Sp j T:=λa b ea eb B e=>by
    refine ao λC z rr x=>⟨trivial,?_⟩
    refine w8 (J:=λ_ B4=>∃s T,TP H1 B4 p d s/\bX s T/\Hd s k2 s10.next/\s.next<=100/\s.d.logs<=30/\Sp j T) (b:=[a,0,0,0,0,0,0,0,b]) g1 (t12.ext (e.trans x)) y2' y5'' y4' hz (by omega) (show 9<=504 by decide) (zw (l:=[a,0,0,0,0,0,0,0,b]) rr) (by omega) λD s' v1 v2 v3 v4 v5=>?_
    refine st v1 v2 v3 (by omega) v5 ?_
    unfold Sp
    rw[if_neg (by omega),if_neg (by omega),if_neg (by omega),cw,ea,eb]
   have hv:KG.wrap ((j:Int) - 3)=((j - 3:Nat):Int):=by rw[wrap64 (by omega) (by omega)];omega
   have bd:0<=KG.wrap ((j:Int) - 3)/\KG.wrap ((j:Int) - 3)<4:=by rw[hv];omega
   obtain⟨a,b,ea,eb,ga,gb⟩:∃a b:UInt8,[1,2,3,1].getD (j - 3) 0=a/\[125,125,125,130].getD (j - 3) 0=b/\(#[.int .u8 1,.int .u8 2,.int .u8 3,.int .u8 1]:Array Value)[j - 3]?=some (.int .u8 (a.toNat:Int))/\(#[.int .u8 125,.int .u8 125,.int .u8 125,.int .u8 130]:Array Value)[j - 3]?=some (.int .u8 (b.toNat:Int)):=by
    rcases (by omega:j=3\/j=4\/j=5\/j=6) with rfl|rfl|rfl|rfl
    ·exact⟨1,125,rfl,rfl,rfl,rfl⟩
    ·exact⟨2,125,rfl,rfl,rfl,rfl⟩
    ·exact⟨3,125,rfl,rfl,rfl,rfl⟩
    ·exact⟨1,130,rfl,rfl,rfl,rfl⟩
   have tail:=@main a b ea eb
   have dI:∀{B:Heap} {q:Nat},aj B q dF #[.int .u8 1,.int .u8 2,.int .u8 3,.int .u8 1]->∀{P:Int->Prop},P (a.toNat:Int)->ld (aa .u8) B (La ⟨q,0,none⟩ ((KG.wrap ((j:Int) - 3)).toNat*1)) P:=λr _ h=>by
    rw[hv,KU,LU]
    exact r.ld (c:=aa .u8) (x:=(a.toNat:Int)) ga h
   have ldB:∀{B:Heap} {q:Nat},aj B q dF #[.int .u8 125,.int .u8 125,.int .u8 125,.int .u8 130]->∀{P:Int->Prop},P (b.toNat:Int)->ld (aa .u8) B (La ⟨q,0,none⟩ ((KG.wrap ((j:Int) - 3)).toNat*1)) P:=λr _ h=>by
    rw[hv,KU,LU]
    exact r.ld (c:=aa .u8) (x:=(b.toNat:Int)) gb h
   refine⟨λ_=>True,trivial,ao λC1 w1 r1 x1=>⟨trivial,bd,dI r1 (ao λC2 w2 r2 x2=>⟨trivial,bd,ldB r2 (tail (x1.trans x2))⟩),ao λC2 w2 r2 x2=>⟨trivial,bd,dI (r1.ext x2) (ldB r2 (tail (x1.trans x2))),ldB r2 (dI (r1.ext x2) (tail (x1.trans x2))),trivial⟩,trivial⟩,
    ao λC1 w1 r1 x1=>⟨trivial,bd,ao λC2 w2 r2 x2=>⟨trivial,bd,dI r2 (ldB (r1.ext x2) (tail (x1.trans x2))),ldB (r1.ext x2) (dI r2 (tail (x1.trans x2))),trivial⟩,ldB r1 (ao λC2 w2 r2 x2=>⟨trivial,bd,dI r2 (tail (x1.trans x2))⟩),trivial⟩,trivial⟩
 rintro _ B ⟨s,T,t,hT,hx,hn,hl,hsp⟩
 obtain⟨u1,u2,u3⟩:=hT.aB t.wf hx
 have ul:(s.aB s10.next).1.d.logs<=30:=by rw[Pl.lL];exact hl
 refine TP.aB t g1 (by omega) rfl λC t2=>?_
 have wf:=t2.wf
 generalize (s.aB s10.next).1=s2 at*
 have hn2:s2.next<=100:=by omega
 have lk:=u1.look wf (by omega) (k:=0) (by decide)
 have hlen:((s2.look nmF 0).1.d.len nmF).1<4611686018427387904:=by rw[show (s2.look nmF 0).1.d.len nmF=(3,0) from lk.2.1.len];decide
 have okr:db.Ok:=⟨by decide,by decide,λj h=>(by cases h),by decide,by simp[db]⟩
 have okb:({db with b:=db.b.bO 280}:RR).Ok:=⟨by decide,by decide,λj h=>(by cases h),by decide,by simp[db]⟩
 have ol:=pz s2 nmF 1
 rcases (by omega:j=0\/j=1\/j=2\/j=3\/j=4\/j=5\/j=6) with rfl|rfl|rfl|rfl|rfl|rfl|rfl
 ·refine TP.open (n:=nmF) (W:=1) t2 g1 hsz (by omega) (by omega) hlen (u1.bad wf (by omega) (c:=1) (b:=[1,0,0,0,0,0,0,0,70]) hsp (.inl (by decide))) (λ_ D t3=>?_) (λr q=>by cases q)
  exact aP rfl (aw rfl (aw rfl (fin t3.1)))
 ·obtain⟨s1,s3⟩:=hsp
  obtain⟨o1,o2,o3,o4⟩:=u1.DM wf (by omega) (m:=70) s1 (by decide) (by decide) (by decide)
  refine TP.open (n:=nmF) (W:=1) t2 g1 hsz (by omega) (by omega) hlen o1 (λq=>by cases q) λr q k' D t3=>?_
  cases q
  refine aw rfl (aw rfl (aP rfl ?_))
  obtain⟨n1,n2,n3,n4⟩:=o2.yH o3 (by omega) s3
  have nl:=RR.so db (rnOpen s2 nmF 1).1
  have t3':TR H1 D (λ_=>False) k' p d (rnOpen s2 nmF 1).1 db:=t3
  refine TR.next t3' g1 okr hsz (by omega) (by omega) n1 λl E t4 _ _=>?_
  rw[n3] at t4
  have hr:({db with b:=db.b.bO 280}:RR).b.ready≠0:=by decide
  refine TR.next (e:=280) (row:=[]) (ok:=false) t4 g1 okb hsz (by omega) (by omega) (by rw[RR.ou hr];rfl) λl2 E2 t5 _ _=>?_
  exact aw rfl (fin t5.at)
 ·obtain⟨s1,s3⟩:=hsp
  obtain⟨o1,o2,o3,o4⟩:=u1.DM wf (by omega) (m:=70) s1 (by decide) (by decide) (by decide)
  refine TP.open (n:=nmF) (W:=1) t2 g1 hsz (by omega) (by omega) hlen o1 (λq=>by cases q) λr q k' D t3=>?_
  cases q
  refine aw rfl (aw rfl (aw rfl (aP rfl ?_)))
  refine ao λD2 z2 r2 x2=>?_
  have t3':TR H1 D (λ_=>False) k' p d (rnOpen s2 nmF 1).1 db:=t3
  obtain⟨n1,n2,n3,n4⟩:=o2.IP o3 (by omega) s3
  have fl:=RR.od db (rnOpen s2 nmF 1).1 [69]
  have hNp:az db.rows db.b.room=2:=by decide
  rw[hNp] at fl
  refine TR.bS t3' x2 g1 okr (fx r2) (λad ha=>by cases ha;exact .inl (KN _)) (by simp) hsz (by omega) (by omega) ⟨by omega,by rw[n2];omega⟩ (λq=>by rw[n1] at q;exact absurd q (by decide)) n3 λE t4=>?_
  exact aw rfl (fin t4.at)
 ·obtain⟨o1,o2,o3,o4⟩:=u1.DM wf (by omega) (m:=125) (b:=[1,0,0,0,0,0,0,0,125]) hsp (by decide) (by decide) (by decide)
  refine TP.open (n:=nmF) (W:=1) t2 g1 hsz (by omega) (by omega) hlen o1 (λq=>by cases q) λr q k' D t3=>?_
  cases q
  exact aw rfl (aw rfl (aw rfl (aw rfl (fin t3.at))))
 ·refine TP.open (n:=nmF) (W:=1) t2 g1 hsz (by omega) (by omega) hlen (u1.bad wf (by omega) (c:=2) (b:=[2,0,0,0,0,0,0,0,125]) hsp (.inl (by decide))) (λ_ D t3=>?_) (λr q=>by cases q)
  exact aP rfl (aw rfl (aw rfl (fin t3.1)))
 ·refine TP.open (n:=nmF) (W:=1) t2 g1 hsz (by omega) (by omega) hlen (u1.bad wf (by omega) (c:=2) (b:=[3,0,0,0,0,0,0,0,125]) hsp (.inl (by decide))) (λ_ D t3=>?_) (λr q=>by cases q)
  exact aP rfl (aw rfl (aw rfl (fin t3.1)))
 ·refine TP.open (n:=nmF) (W:=1) t2 g1 hsz (by omega) (by omega) hlen (u1.bad wf (by omega) (c:=2) (b:=[1,0,0,0,0,0,0,0,130]) hsp (.inr (by decide))) (λ_ D t3=>?_) (λr q=>by cases q)
  exact aP rfl (aw rfl (aw rfl (fin t3.1)))
end Go.Proofs.YtdpdmbceakdlmaaGreatDoor
namespace Go.Proofs.YtdpdmbceakdlmaaGreatDoor
theorem uW {H:Heap}{K:(Int×Int)->Heap->Prop}(hK:K (0,1) H):wU.sp none H K:=by
 refine wU.of ?_
 unfold wU.vc
 exact aP rfl hK
theorem An {l:Sl}{H:Heap}{K:Int->Heap->Prop}(hK:K 1 H):tV.sp none l H K:=by
 refine tV.of ?_
 unfold tV.vc
 exact aP rfl hK
theorem xe {H:Heap}{K:(Sl×Bool×Int)->Heap->Prop}(hK:K (Sl.mk none 0 0,false,1) H):tY.sp none H K:=by
 refine tY.of ?_
 unfold tY.vc
 exact aP rfl hK
theorem xl {H:Heap}{K:Int->Heap->Prop}(hK:K 0 H):CB.sp none H K:=by
 refine CB.of ?_
 unfold CB.vc
 exact aP rfl hK
theorem yw {H:Heap}{K:Unit->Heap->Prop}(hK:K () H):By.sp none H K:=by
 refine By.of ?_
 unfold By.vc
 exact aw rfl hK
theorem xX {l:Sl}{H:Heap}{K:Int->Heap->Prop}(hK:∀H',Ext H H'->K 1 H'):wc.sp none l H K:=by
 refine wc.of ?_
 unfold wc.vc
 refine dH λc A1 hc1 z1 v1 e1=>?_
 refine dH λc1 A2 hc2 z2 v2 e2=>?_
 refine(v1.ext e2).ld (c:=ar) (x:=none) ?_
 exact aP rfl (hK A2 (e1.trans e2))
theorem vU {name:ByteArray}{width:Int}{l:Sl}{H:Heap}{K:Bool->Heap->Prop}(hg:Gl H)(hK:∀B,Ext H B->K true B):Hz.sp name width l H K:=by
 refine Hz.of ?_
 unfold Hz.vc
 refine uW (xe ?_)
 refine yD λH1 e1=>?_
 refine yy λH2 e2=>?_
 refine yw ?_
 refine aP rfl (aP rfl (aP rfl ?_))
 refine xl (aP rfl ?_)
 refine An (aP rfl ?_)
 refine xX λH3 e3=>?_
 refine aP rfl ?_
 have e:=(e1.trans e2).trans e3
 exact oU (hg.mod e id) λB eB=>hK B (e.trans eB)
open Go.MapKept
theorem Jx:uy KE 22 wS Ft.size 40:=ic (by kernel_rfl)
theorem aj.Jn {α:Type}{E:fN α}{H:Heap}{b:Nat}{t:TypeId}{cs:Array Value}{xs:List α}(h:aj H b t cs)(e:E.all xs=cs.toList)(hl:xs.length<=1000):aK E t H ⟨some ⟨b,0,none⟩,xs.length,xs.length⟩ xs:=by
 have hs:cs.size=xs.length*E.size:=by rw[<-E.bU,e];simp
 refine⟨by rw[E.bU],.inr ⟨b,xs.length,cs,rfl,Lh _,h,KN _,by unfold maxLen;omega,hs,?_⟩⟩
 rw[<-hs,e]
 exact List.take_of_length_le (by simp)
def dz.at_ (A:Heap)(z:Sl)(x:dz):Prop:=∃ll,Ints .u64 A x.2.1 ll/\jW ll/\ll.length<=1000/\∀ad,x.2.1.a=some ad->ad.block<A.size/\¬al z ad.block
theorem dz.at_.Es {A:Heap}{z:Sl}{x:dz}(h:dz.at_ A z x):dz.Es A x:=by
 obtain⟨ll,h1,h2,h3,_⟩:=h
 exact⟨ll,h1,h2,by omega⟩
structure uP (H0 A:Heap)(z:Sl)(xs:List dz):Prop where
 ext:Ext H0 A
 own:aK Ft wS A z xs
 at_:∀x∈xs,dz.at_ A z x
 new:∀b,al z b->H0.size<=b
section
variable {H0 A B:Heap}{z:Sl}{xs:List dz}
theorem uP.more (h:uP H0 A z xs)(e:Ext A B):uP H0 B z xs:=
 ⟨h.ext.trans e,h.own.ext e,λx hx=>by
  obtain⟨ll,h1,h2,h3,h4⟩:=h.at_ x hx
  exact⟨ll,h1.ext e,h2,h3,λad ha=>⟨LJ (h4 ad ha).1 e.size,(h4 ad ha).2⟩⟩,h.new⟩
theorem uP.app {ty:TypeId}{x:Sl}{ys:List dz}{K:Sl->Heap->Prop}(h:uP H0 A z xs)(hx:cS Ft A x.a ys)(hn:x.n=ys.length)(hys:∀y∈ys,dz.at_ A z y)(hl:xs.length+ys.length<=1000)
  (hK:∀z' B,uP H0 B z' (xs++ys)->K z' B):bt av KE (KM #[22,22] ty #[z.v,x.v]) A K:=by
 refine aK.append Jx h.own hx hn (by omega) (by omega) λs' B o g _=>hK s' B ⟨⟨Lc h.ext.size g.1.size,λb hb _=>?_⟩,o,λy hy=>?_,λb hb=>?_⟩
 ·exact(g.1.same b (LJ hb h.ext.size) λq=>by have:=h.new b q;omega).trans (h.ext.same b hb id)
 ·obtain⟨ll,h1,h2,h3,h4⟩:dz.at_ A z y:=by
   rcases KW.1 hy with q|q
   ·exact h.at_ y q
   ·exact hys y q
  refine⟨ll,h1.Iq g.1 λad ha _ q=>(h4 ad ha).2 q,h2,h3,λad ha=>⟨LJ (h4 ad ha).1 g.1.size,λq=>?_⟩⟩
  rcases g.2 _ q with u|u
  ·exact(h4 ad ha).2 u
  ·have:=(h4 ad ha).1;omega
 ·rcases g.2 b hb with u|u
  ·exact h.new b u
  ·exact Lc h.ext.size u
theorem aj.Ji {b:Nat}{ys:List dz}{cs:Array Value}(r:aj A b wS cs)(e:Ft.all ys=cs.toList)(hl:ys.length<=1000):cS Ft A (some ⟨b,0,none⟩) ys:=(r.Jn e hl).rd
end
def eJ:Sl:=Sl.mk none 0 0
def iE (b n:Nat):Sl:=Sl.mk (some ⟨b,0,none⟩) n n
section
variable {A:Heap}{z:Sl}{k w:Int}
theorem bT:dz.at_ A z (k,eJ,w):=⟨[],⟨rfl,Reads.nil _ _⟩,(λx hx=>by cases hx),(by simp),(λad h=>by cases h)⟩
theorem gI {b n:Nat}{l:List Int}(r:aj A b eL (l.map (Lb .u64)).toArray)(hf:jW l)(hn:l.length=n)(hl:n<=1000)(hz:¬al z b):dz.at_ A z (k,iE b n,w):=by
 refine⟨l,⟨hn.symm,λi v hv=>⟨_,rfl,?_⟩⟩,hf,by omega,λad h=>?_⟩
 ·rw[aX]
  exact r.cell (by rw[M3];exact hv)
 ·cases h
  exact⟨aG r,hz⟩
theorem bN {α:Type}{P:α->Prop}{a:α}{l:List α}(h:P a)(t:∀x∈l,P x):∀x∈a::l,P x:=λx hx=>by
 rcases List.mem_cons.1 hx with rfl|q
 ·exact h
 ·exact t x q
theorem rl {α:Type}{P:α->Prop}:∀x∈([]:List α),P x:=λx hx=>by cases hx
theorem vj {b c n:Nat}(h:c≠b):¬al (iE c n) b:=by
 rintro⟨ad,q,h2⟩
 cases q
 exact h h2
theorem gd {H0 B:Heap}{zs:Sl}{xs:List dz}{quota ah width p ak:Int}{R:Bool->Heap->Prop}(hg:Gl H0)(S:uP H0 B zs xs)(hq:quota<=9223372036854775807)(hp:p<=9223372036854775807)
  (hK:∀C,Ext B C->R true C):yc.sp quota ah width zs p ak B R:=
 uE (hg.mod S.ext id) hq hp S.own.rd (aK.n S.own (by decide)) (λx hx=>(S.at_ x hx).Es) hK
end
def Gh (a b c d e f:Nat):List dz:=[(0,iE a 1,0),(0,iE b 1,0),(0,iE c 1,0),(2,eJ,1),(0,iE d 1,0),(0,iE e 2,0),(1,eJ,0),(1,eJ,0),(0,iE f 1,0)]
def xZ (a b c:Nat):List dz:=[(2,eJ,1),(3,eJ,0),(3,eJ,0),(3,eJ,0),(4,iE a 1,0),(3,eJ,0),(4,iE b 1,0),(3,eJ,0),(4,eJ,0),(3,eJ,0),(4,iE c 2,0),(2,eJ,2),(2,eJ,17),(5,eJ,0),(3,eJ,0),(4,eJ,0),(6,eJ,1),(6,eJ,17)]
theorem tP {x:Int}(h:0<=x/\x<100):jW [x]:=λy hy=>by simp at hy;omega
theorem IW {x y:Int}(h:0<=x/\x<100)(k:0<=y/\y<100):jW [x,y]:=λu hu=>by simp at hu;omega
section
variable {H:Heap}{X:Sl->Heap->Prop}
set_option maxHeartbeats 4000000 in
theorem Im (hX:∀z xs B,uP H B z xs->X z B):aF H #[(.int .u64 (6:Int))] eL λp H1=>aF H1 #[(.int .u64 (8:Int))] eL λp_1 H2=>aF H2 #[(.int .u64 (1:Int)),(.int .u64 (2:Int))] eL λp_2 H3=>aF H3 #[(.int .i64 (2:Int)),(.slice none 0 0),(.int .i64 (1:Int)),(.int .i64 (3:Int)),(.slice none 0 0),(.int .i64 (0:Int)),(.int .i64 (3:Int)),(.slice none 0 0),(.int .i64 (0:Int)),(.int .i64 (3:Int)),(.slice none 0 0),(.int .i64 (0:Int)),(.int .i64 (4:Int)),(.slice (some p) 1 1),(.int .i64 (0:Int)),(.int .i64 (3:Int)),(.slice none 0 0),(.int .i64 (0:Int)),(.int .i64 (4:Int)),(.slice (some p_1) 1 1),(.int .i64 (0:Int)),(.int .i64 (3:Int)),(.slice none 0 0),(.int .i64 (0:Int)),(.int .i64 (4:Int)),(.slice none 0 0),(.int .i64 (0:Int)),(.int .i64 (3:Int)),(.slice none 0 0),(.int .i64 (0:Int)),(.int .i64 (4:Int)),(.slice (some p_2) 2 2),(.int .i64 (0:Int)),(.int .i64 (2:Int)),(.slice none 0 0),(.int .i64 (2:Int)),(.int .i64 (2:Int)),(.slice none 0 0),(.int .i64 (17:Int)),(.int .i64 (5:Int)),(.slice none 0 0),(.int .i64 (0:Int)),(.int .i64 (3:Int)),(.slice none 0 0),(.int .i64 (0:Int)),(.int .i64 (4:Int)),(.slice none 0 0),(.int .i64 (0:Int)),(.int .i64 (6:Int)),(.slice none 0 0),(.int .i64 (1:Int)),(.int .i64 (6:Int)),(.slice none 0 0),(.int .i64 (17:Int))] wS λread_p H4=>aF H4 #[(.int .u64 (5:Int))] eL λp_3 H5=>aF H5 #[(.int .u64 (5:Int))] eL λp_4 H6=>aF H6 #[(.int .u64 (4:Int))] eL λp_5 H7=>aF H7 #[(.int .u64 (7:Int))] eL λp_6 H8=>aF H8 #[(.int .u64 (1:Int)),(.int .u64 (2:Int))] eL λp_7 H9=>aF H9 #[(.int .u64 (9:Int))] eL λp_8 H10=>aF H10 #[(.int .i64 (0:Int)),(.slice (some p_3) 1 1),(.int .i64 (0:Int)),(.int .i64 (0:Int)),(.slice (some p_4) 1 1),(.int .i64 (0:Int)),(.int .i64 (0:Int)),(.slice (some p_5) 1 1),(.int .i64 (0:Int)),(.int .i64 (2:Int)),(.slice none 0 0),(.int .i64 (1:Int)),(.int .i64 (0:Int)),(.slice (some p_6) 1 1),(.int .i64 (0:Int)),(.int .i64 (0:Int)),(.slice (some p_7) 2 2),(.int .i64 (0:Int)),(.int .i64 (1:Int)),(.slice none 0 0),(.int .i64 (0:Int)),(.int .i64 (1:Int)),(.slice none 0 0),(.int .i64 (0:Int)),(.int .i64 (0:Int)),(.slice (some p_8) 1 1),(.int .i64 (0:Int))] wS λone_p H11=>bt av KE (KM #[22,22] 22 #[(.slice (some one_p) 9 9),(.slice (some read_p) 18 18)]) H11 X:=by
 refine ao λA1 z1 r1 e1=>?_
 refine ao λA2 z2 r2 e2=>?_
 refine ao λA3 z3 r3 e3=>?_
 refine ao λA4 z4 rR e4=>?_
 refine ao λA5 z5 r5 e5=>?_
 refine ao λA6 z6 r6 e6=>?_
 refine ao λA7 z7 r7 e7=>?_
 refine ao λA8 z8 r8 e8=>?_
 refine ao λA9 z9 r9 e9=>?_
 refine ao λA10 z10 r10 e10=>?_
 refine ao λA11 z11 rO e11=>?_
 have y10:Ext A9 A11:=e10.trans e11
 have y9:Ext A8 A11:=e9.trans y10
 have y8:Ext A7 A11:=e8.trans y9
 have y7:Ext A6 A11:=e7.trans y8
 have y6:Ext A5 A11:=e6.trans y7
 have y5:Ext A4 A11:=e5.trans y6
 have y4:Ext A3 A11:=e4.trans y5
 have y3:Ext A2 A11:=e3.trans y4
 have y2:Ext A1 A11:=e2.trans y3
 have y1:Ext H A11:=e1.trans y2
 have off:∀{c:Nat},c≠A10.size->¬al (iE A10.size 9) c:=λh=>vj λq=>h q.symm
 have S:uP H A11 (iE A10.size 9) (Gh A4.size A5.size A6.size A7.size A8.size A9.size):=by
  refine⟨y1,rO.Jn (xs:=Gh A4.size A5.size A6.size A7.size A8.size A9.size) rfl (by simp[Gh]),?_,?_⟩
  ·exact bN (gI (l:=[5]) (r5.ext y6) (tP (by decide)) rfl (by decide) (off (by omega))) (bN (gI (l:=[5]) (r6.ext y7) (tP (by decide)) rfl (by decide) (off (by omega))) (bN (gI (l:=[4]) (r7.ext y8) (tP (by decide)) rfl (by decide) (off (by omega))) (bN bT (bN (gI (l:=[7]) (r8.ext y9) (tP (by decide)) rfl (by decide) (off (by omega))) (bN (gI (l:=[1,2]) (r9.ext y10) (IW (by decide) (by decide)) rfl (by decide) (off (by omega))) (bN bT (bN bT (bN (gI (l:=[9]) (r10.ext e11) (tP (by decide)) rfl (by decide) (off (by omega))) rl))))))))
  ·rintro b ⟨ad,q,rfl⟩
   cases q
   show H.size<=A10.size
   omega
 refine S.app (x:=iE A3.size 18) (ys:=xZ H.size A1.size A2.size) ((rR.ext y5).Ji rfl (by simp[xZ])) rfl ?_ (by simp[Gh,xZ]) λz' B S'=>hX _ _ _ S'
 exact bN bT (bN bT (bN bT (bN bT (bN (gI (l:=[6]) (r1.ext y2) (tP (by decide)) rfl (by decide) (off (by omega))) (bN bT (bN (gI (l:=[8]) (r2.ext y3) (tP (by decide)) rfl (by decide) (off (by omega))) (bN bT (bN bT (bN bT (bN (gI (l:=[1,2]) (r3.ext y4) (IW (by decide) (by decide)) rfl (by decide) (off (by omega))) (bN bT (bN bT (bN bT (bN bT (bN bT (bN bT (bN bT rl)))))))))))))))))
end
end Go.Proofs.YtdpdmbceakdlmaaGreatDoor
