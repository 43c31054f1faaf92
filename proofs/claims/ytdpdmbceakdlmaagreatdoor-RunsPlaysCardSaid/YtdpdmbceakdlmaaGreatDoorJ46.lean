/-
 Both disks at once: a call of each; what they tell.
-/
import Derived.Test.YtdpdmbceakdlmaaGreatDoorRows
import Derived.Test.YtdpdmbceakdlmaaGreatDoorFxh
import Derived.Test.YtdpdmbceakdlmaaGreatDoorJ30
import Derived.Test.YtdpdmbceakdlmaaGreatDoorJ33
import Derived.Test.YtdpdmbceakdlmaaGreatDoorDkr
import Derived.Test.YtdpdmbceakdlmaaGreatDoorJ42
import Derived.Test.YtdpdmbceakdlmaaGreatDoorJ44
import Derived.Test.YtdpdmbceakdlmaaGreatDoorJ45
namespace Go.Proofs.YtdpdmbceakdlmaaGreatDoor
open Go.MapKept
theorem ry {a b:Sl} {L:List (List UInt8)} {H:Heap} {K:Bool→Heap→Prop} (ha:aG EN gu H a L) (hb:aG EN gu H b L) (hl:L.length<4611686018427387904) (hK:K true H):Eu.sp a b H K:=by
 refine Eu.of ?_
 unfold Eu.vc
 have an:=ha.n (by decide)
 have bn:=hb.n (by decide)
 refine ar (by simp;omega) ?_
 refine aw L.length (fun k i H1=>i=(k:Int)∧H1=H) ⟨rfl,rfl⟩ ?_
 rintro k _ H1 next hk ⟨rfl,rfl⟩ hnext
 refine ag (fun hc=>?_) (fun _=>hK)
 have hlt:k<L.length:=by rw[an] at hc;simpa using hc
 refine oq ha hlt ?_
 refine oq hb hlt ?_
 refine ar (by simp) (hnext hlt _ _ ⟨aK k (by omega),rfl⟩)
def GY (G:Nat→Prop) (H:Heap) (d m:Nat) (s:Dk):Prop:=∃F1 F2,bf F1 H d s∧bY F2 H m s∧(∀b,F1 b→¬F2 b)∧∀b,G b↔F1 b∨F2 b
section
variable {Q:Nat→Prop} {A B:Heap} {p dp m dm:Nat} {s1 s2:Pl}
end
theorem aI.bc {F:Nat→Prop} {H:Heap} {p dp:Nat} {s:Pl} (h:aI F H p dp s):∃D,bY D H dp s.d∧(∀b,D b→F b)∧∀D' H' d,bY D' H' dp d→Step D D' H H'→∃F',aI F' H' p dp (s.aV d)∧Step F F' H H':=by
 obtain⟨ll,zs,D,g,hF⟩:=h
 refine⟨D,g.bc,fun b hb=>(hF b).2 (.inl hb),fun D' H' d hd' hS=>?_⟩
 obtain⟨q1,q2⟩:=g.jC hd' hS
 exact q1.out hF q2
theorem aI.head {F:Nat→Prop} {H:Heap} {p dp:Nat} {s:Pl} (h:aI F H p dp s):∃ll:Sl,ai H p nW (dq dp ll s)∧ll.n=s.fs.length∧F p:=by
 obtain⟨ll,zs,D,g,hF⟩:=h
 exact⟨ll,g.ae.head,g.ae.n,(hF p).2 (.inr (.inl rfl))⟩
structure jr (H0:Heap) (F0:Nat→Prop) (k p dp:Nat) (sw sl:Sl) (F:Nat→Prop) (A:Heap) (s:Pl) (w:RW):Prop where
 ae:aI F A p dp s
 wr:oI A k p w sw sl
 dis:∀b,F b→¬ez k sw sl b
 mod:Mod (fun b=>F0 b∨b=k) H0 A
 own:∀b,F b→F0 b∨H0.size≤b
theorem CJ {H:Heap} {W:Int} {n:Nat} {K:Sl→Heap→Prop} (hW:0≤W) (hn:n<1099511627776) (hK:∀out H',aG EB eA H' out (bJ W n)→Ext H H'→(∀b,aj out b→H.size≤b)→K out H'):Er.sp W (n:Int) H K:=by
 refine Er.of ?_
 unfold Er.vc
 have hu8:IntKind.u8.wrap W=((UInt8.ofNat W.toNat).toNat:Int):=by
  have:W=(W.toNat:Int):=by omega
  rw[this,me];simp
 have hu64:IntKind.u64.wrap (n:Int)=(n:Int):=DA (by omega)
 rw[hu8,hu64]
 refine au fun H1 z1 r1 e1=>?_
 refine au fun H2 z2 r2 e2=>?_
 refine ra (gD r2) (by simp) fun r H3 o e3=>?_
 have o1:=yZ ((r1.ext e2).ext e3)
 have hr:cL EB H3 r.a (cg (bS [(n:Int)])):=by
  unfold cL;rw[gC,iW (fe _)];exact o.reads
 have hrn:r.n=(cg (bS [(n:Int)])).length:=by have:=o.1;rw[bP];simpa using this.symm
 have hrl:(cg (bS [(n:Int)])).length=8:=by rw[bP];simp[bS,cu]
 refine aG.append hC (s:=Sl.mk (some ⟨H.size,0,none⟩) 1 1) (x:=r) o1 hr hrn (by rw[hrl];simp) (by rw[hrl];simp) fun z A' oz gz _=>?_
 have z3:=e3.size
 have own1:∀b,aj (Sl.mk (some ⟨H.size,0,none⟩) 1 1) b→H.size≤b:=by
  rintro b ⟨ad,q1,q2⟩;cases q1;subst q2;exact Nat.le_refl _
 refine hK z A' oz ⟨by have:=((e1.trans e2).trans e3).size;have:=gz.1.size;omega,fun b hb _=>(gz.1.same b (by have:=((e1.trans e2).trans e3).size;omega) fun u=>by have:=own1 b u;omega).trans (((e1.trans e2).trans e3).same b hb id)⟩ fun b hb=>?_
 rcases gz.2 b hb with q|q
 ·exact own1 b q
 ·omega
section
variable {H0:Heap} {F0:Nat→Prop} {k p dp:Nat} {sw sl:Sl} {F:Nat→Prop} {A:Heap} {s:Pl} {w:RW}
theorem jr.step {F':Nat→Prop} {A':Heap} {s':Pl} (h:jr H0 F0 k p dp sw sl F A s w) (hp:aI F' A' p dp s') (S:Step F F' A A'):jr H0 F0 k p dp sw sl F' A' s' w:=by
 refine⟨hp,h.wr.mod S.mod fun b hb q=>h.dis b q hb,fun b hb q=>?_,h.mod.trans' S.mod fun b hb q=>?_,fun b hb=>?_⟩
 ·rcases S.own b hb with r|r
  ·exact h.dis b r q
  ·have:=h.wr.lt b q;omega
 ·rcases h.own b q with r|r
  ·exact .inl r
  ·omega
 ·rcases S.own b hb with r|r
  ·exact h.own b r
  ·right;have:=h.mod.size;omega
theorem jr.ext {A':Heap} (h:jr H0 F0 k p dp sw sl F A s w) (e:Ext A A'):jr H0 F0 k p dp sw sl F A' s w:=h.step (h.ae.ext e) ⟨e.mod,fun _ q=>.inl q⟩
theorem jr.aZ {A':Heap} {w':RW} {sw':Sl} (h:jr H0 F0 k p dp sw sl F A s w) (m:Mod (fun b=>b=k) A A') (hw:oI A' k p w' sw' sl) (hs:∀b,aj sw' b→aj sw b):jr H0 F0 k p dp sw' sl F A' s w':=by
 refine⟨h.ae.keep fun b hb hl=>m.same b hl fun q=>h.dis b hb (.inl q),hw,fun b hb q=>h.dis b hb (q.imp_right fun r=>r.imp_left (hs b)),h.mod.trans' m fun b _ q=>.inr q,h.own⟩
set_option maxHeartbeats 1000000 in
theorem xu {H:Heap} {K:(Int×Int)→Heap→Prop} (h:oI H k p w sw sl) (hp:aI F H p dp s) (hd:∀b,F b→¬ez k sw sl b)
  (hwr:w.rows<1099511627776) (hwd:0≤w.b.width) (hn:w.b.name.size≤9223372036854775807) (hlogs:s.d.logs<68716900000) (hnx:s.next<1099511620000) (h0:0≤s.next) (hfit:s.Fit)
  (hb1:(w.out s).1.d.logs<68716950000) (hb2:(w.out s).1.next<1099511620000)
  (hb3:∀h hd,(Pl.leave (((w.out s).1.aQ w.b.name 0).1.set h 2 hd) h).1.d.logs<68717000000) (hfit1:(w.out s).1.Fit) (hfit2:∀h hd,(Pl.leave (((w.out s).1.aQ w.b.name 0).1.set h 2 hd) h).1.Fit)
  (hK:∀F' sw' H',aI F' H' p dp (w.close s).1→oI H' k p (w.close s).2.1 sw' sl→(∀b,F' b→¬ez k sw' sl b)→Step (fun b=>F b∨ez k sw sl b) (fun b=>F' b∨ez k sw' sl b) H H'→K (((w.close s).2.2.1:Int),(w.close s).2.2.2) H'):Cs.sp (ay k) H K:=by
 refine Cs.of ?_
 unfold Cs.vc
 simp only[ak,ay]
 unfold RW.close at hK
 refine j6 h.row ?_
 have B0:jr H F k p dp sw sl F H s w:=⟨hp,h,hd,.refl _ _,fun b q=>.inl q⟩
 -- the end of all
 have fin:∀(F':Nat→Prop) (sw':Sl) (A:Heap) (s':Pl) (w':RW),(∀b,aj sw' b→aj sw b)→jr H F k p dp sw' sl F' A s' w'→Step (fun b=>F b∨ez k sw sl b) (fun b=>F' b∨ez k sw' sl b) H A:=by
  intro F' sw' A s' w' hs B
  refine⟨B.mod.mono fun b _ q=>q.imp_right .inl,fun b hb=>?_⟩
  rcases hb with q|q|q|q
  ·rcases B.own b q with r|r
   ·exact .inl (.inl r)
   ·exact .inr r
  ·exact .inl (.inr (.inl q))
  ·exact .inl (.inr (.inr (.inl (hs b q))))
  ·exact .inl (.inr (.inr (.inr q)))
 by_cases e0:w.b.ready≠0
 ·rw[if_pos e0] at hK
  refine⟨fun e A=>e=w.b.ready∧A=H,ar (by simpa using e0) ⟨rfl,rfl⟩,?_⟩
  rintro _ A ⟨rfl,rfl⟩
  exact aU (by simpa using e0) (hK F sw A hp h hd (.refl _ _))
 rw[if_neg e0] at hK
 obtain⟨hw0,hcl0⟩:=Rb.rz e0
 refine⟨fun e A=>e=(w.out s).2.2∧∃F1 sw1,(∀b,aj sw1 b→aj sw b)∧jr H F k p dp sw1 sl F1 A (w.out s).1 (w.out s).2.1,?_,?_⟩
 ·refine aU (by simpa using e0) ?_
  refine wJ h hp hd hw0 hn (by omega) (by omega) h0 hfit fun F1 sw1 H1 p1 h1 hsub m1 own1=>?_
  refine⟨rfl,F1,sw1,hsub,p1,h1,?_,m1,own1⟩
  rintro b hb (q|q|q)
  ·rcases own1 b hb with r|r
   ·exact hd b r (.inl q)
   ·have:=h.lt b (.inl q);omega
  ·rcases own1 b hb with r|r
   ·exact hd b r (.inr (.inl (hsub b q)))
   ·have:=h.lt b (.inr (.inl (hsub b q)));omega
  ·rcases own1 b hb with r|r
   ·exact hd b r (.inr (.inr q))
   ·have:=h.lt b (.inr (.inr q));omega
 rintro _ H1 ⟨rfl,F1,sw1,hsub,B1⟩
 have p1:=B1.ae
 have h1:=B1.wr
 have hb20:0≤(w.out s).1.next:=by have:=p1.wf.tick;omega
 refine ag (fun hc=>?_) (fun hc=>?_)
 ·have e1:(w.out s).2.2≠0:=by simpa using hc
  rw[if_pos e1] at hK
  exact hK F1 sw1 H1 p1 h1 B1.dis (fin F1 sw1 H1 _ _ hsub B1)
 have e1:¬(w.out s).2.2≠0:=by simpa using hc
 rw[if_neg e1] at hK
 have hwb:(w.out s).2.1.b=w.b∧(w.out s).2.1.rows=w.rows:=by
  unfold RW.out at e1 ⊢
  split
  ·exact⟨rfl,rfl⟩
  ·rename_i hq
   rw[if_neg hq] at e1
   refine⟨?_,rfl⟩
   show w.b.bV _=_
   unfold Rb.bV;rw[if_neg e1]
 obtain⟨hwb1,hwb2⟩:=hwb
 rw[←hwb1] at hn hb3 hwd hw0 hfit2
 rw[←hwb2] at hwr
 generalize hs1:(w.out s).1=s1 at*
 generalize hw1:(w.out s).2.1=w1 at*
 refine ai.ld (c:=al) (i:=0) (x:=ay p) h1.row (bl.get 0 _ rfl) ?_
 refine ai.ld (c:=aR) (i:=1) (x:=w1.b.name) h1.row (bl.get 1 _ rfl) ?_
 refine tf p1 hn (by omega) (by omega) fun F2 H2 p2 S2=>?_
 have B2:=B1.step p2 S2
 have hnx2:(s1.aQ w1.b.name 0).1.next≤s1.next+1:=s1.ie hb20 (by omega)
 have hhead:w1.head s1=if (s1.aQ w1.b.name 0).2.2≠0 then ((s1.aQ w1.b.name 0).1,(s1.aQ w1.b.name 0).2.2) else
   if (Pl.leave ((s1.aQ w1.b.name 0).1.set (s1.aQ w1.b.name 0).2.1 2 (bJ w1.b.width w1.rows)) (s1.aQ w1.b.name 0).2.1).2≠0 then Pl.leave ((s1.aQ w1.b.name 0).1.set (s1.aQ w1.b.name 0).2.1 2 (bJ w1.b.width w1.rows)) (s1.aQ w1.b.name 0).2.1
   else (Pl.leave ((s1.aQ w1.b.name 0).1.set (s1.aQ w1.b.name 0).2.1 2 (bJ w1.b.width w1.rows)) (s1.aQ w1.b.name 0).2.1).1.flush w1.b.name:=rfl
 have hsn:=(s1.aQ w1.b.name 0).1.gv (s1.aQ w1.b.name 0).2.1 2 (bJ w1.b.width w1.rows)
 have hb3':=hb3 (s1.aQ w1.b.name 0).2.1 (bJ w1.b.width w1.rows)
 have hf3':=hfit2 (s1.aQ w1.b.name 0).2.1 (bJ w1.b.width w1.rows)
 generalize (s1.aQ w1.b.name 0).1=s2 at*
 generalize (s1.aQ w1.b.name 0).2.1=hh at*
 generalize (s1.aQ w1.b.name 0).2.2=e2 at*
 -- what stands behind each cut
 obtain⟨X0,hX0⟩:∃X0:Pl×Int,X0=if e2≠0 then (s2,e2) else s2.set hh 2 (bJ w1.b.width w1.rows):=⟨_,rfl⟩
 obtain⟨X1,hX1⟩:∃X1:Pl×Int,X1=if e2≠0 then (s2,e2) else Pl.leave (s2.set hh 2 (bJ w1.b.width w1.rows)) hh:=⟨_,rfl⟩
 have hX1':X1=Pl.leave X0 hh:=by
  rw[hX1,hX0]
  by_cases q:e2≠0
  ·rw[if_pos q,if_pos q];exact(if_neg q).symm
  ·rw[if_neg q,if_neg q]
 have hX2:w1.head s1=if X1.2≠0 then X1 else X1.1.flush w1.b.name:=by
  rw[hhead,hX1]
  by_cases q:e2≠0
  ·rw[if_pos q,if_pos q,if_pos q]
  ·rw[if_neg q,if_neg q]
 have hX0n:X0.1.next≤s1.next+1:=by
  rw[hX0]
  by_cases q:e2≠0
  ·rw[if_pos q];exact hnx2
  ·rw[if_neg q,hsn];exact hnx2
 have hX1l:X1.2=0→X1.1.d.logs<68717000000∧X1.1.Fit:=by
  rw[hX1]
  by_cases q:e2≠0
  ·rw[if_pos q];intro r;exact absurd r q
  ·rw[if_neg q];intro _;exact⟨hb3',hf3'⟩
 refine⟨fun e A=>e=X0.2∧∃F',jr H F k p dp sw1 sl F' A X0.1 w1,?_,?_⟩
 ·refine ag (fun hc=>?_) (fun hc=>?_)
  ·have q:¬e2≠0:=by simpa using hc
   rw[if_neg q] at hX0
   refine⟨fun A=>bl A k Ci p w1.b [sw1.v,.int .i64 (w1.n:Int),sl.v,.int .i64 (w1.rows:Int)],B2.wr.row,?_⟩
   refine ai.dK (c:=al) (i:=0) (x:=ay p) (cs:=fun _=>_) (fun _ q=>q) (fun _ _=>bl.get 0 _ rfl) ?_
   refine ai.ld (c:=aa .i64) (i:=2) (x:=w1.b.width) B2.wr.row (bl.get 2 _ rfl) ?_
   refine ai.dK (c:=aa .i64) (i:=8) (x:=(w1.rows:Int)) (cs:=fun _=>_) (fun _ q=>q) (fun _ _=>bl.tail (j:=3) rfl) ?_
   refine CJ hwd hwr fun z A3 oz x3 fz=>?_
   have B3:=B2.ext x3
   refine⟨B3.wr.row,?_⟩
   refine um (kd:=2) B3.ae (by omega) (bM oz) (fun ad ha r=>by have:=p2.lt _ r;have:=fz _ ⟨ad,ha,rfl⟩;omega) fun F4 H4 p4 S4=>?_
   rw[hX0]
   exact⟨rfl,F4,B3.step p4 S4⟩
  ·have q:e2≠0:=by simpa using hc
   rw[if_pos q] at hX0
   rw[hX0]
   exact⟨rfl,F2,B2⟩
 rintro _ A3 ⟨rfl,F3,B3⟩
 refine⟨fun e A=>e=X1.2∧∃F',jr H F k p dp sw1 sl F' A X1.1 w1,?_,?_⟩
 ·refine ag (fun hc=>?_) (fun hc=>?_)
  ·have q:X0.2=0:=by simpa using hc
   refine ai.ld (c:=al) (i:=0) (x:=ay p) B3.wr.row (bl.get 0 _ rfl) ?_
   refine iV B3.ae (by omega) fun F4 H4 p4 S4=>?_
   have e:X1=X0.1.aD hh:=by rw[hX1'];exact if_pos q
   rw[e]
   exact⟨rfl,F4,B3.step p4 S4⟩
  ·have q:¬X0.2=0:=by simpa using hc
   have e:X1=X0:=by rw[hX1'];exact if_neg q
   rw[e]
   exact⟨rfl,F3,B3⟩
 rintro _ A4 ⟨rfl,F4,B4⟩
 refine⟨fun e A=>e=(w1.head s1).2∧∃F',jr H F k p dp sw1 sl F' A (w1.head s1).1 w1,?_,?_⟩
 ·refine ag (fun hc=>?_) (fun hc=>?_)
  ·have q:X1.2=0:=by simpa using hc
   refine ai.ld (c:=al) (i:=0) (x:=ay p) B4.wr.row (bl.get 0 _ rfl) ?_
   refine ai.ld (c:=aR) (i:=1) (x:=w1.b.name) B4.wr.row (bl.get 1 _ rfl) ?_
   refine vk B4.ae (hX1l q).1 (hX1l q).2 fun F5 H5 p5 S5=>?_
   have e:w1.head s1=X1.1.flush w1.b.name:=by rw[hX2];exact if_neg (by simpa using q)
   rw[e]
   exact⟨rfl,F5,B4.step p5 S5⟩
  ·have q:¬X1.2=0:=by simpa using hc
   have e:w1.head s1=X1:=by rw[hX2];exact if_pos q
   rw[e]
   exact⟨rfl,F4,B4⟩
 rintro _ A5 ⟨rfl,F5,B5⟩
 unfold RW.ends at hK
 refine ag (fun hc=>?_) (fun hc=>?_)
 ·have q:(w1.head s1).2≠0:=by simpa using hc
  rw[if_pos q] at hK
  refine mT B5.wr.row hw0 fun A6 r6 m6 z6=>?_
  have B6:jr H F k p dp sw1 sl F5 A6 (w1.head s1).1 {w1 with b:=w1.b.bV (w1.head s1).2}:=B5.aZ m6 ⟨r6,B5.wr.wait.mod m6 fun b hb q=>B5.wr.rQ (q▸hb),B5.wr.last.mod m6 fun b hb q=>B5.wr.uR (q▸hb)⟩ fun _ q=>q
  exact hK F5 sw1 A6 B6.ae B6.wr B6.dis (fin F5 sw1 A6 _ _ hsub B6)
 ·have q:¬(w1.head s1).2≠0:=by simpa using hc
  rw[if_neg q] at hK
  refine ai.st B5.wr.row (i:=4) (by simp[bQ]) rfl fun A7 r7 m7 z7=>?_
  rw[tS] at r7
  have B7:jr H F k p dp sw1 sl F5 A7 (w1.head s1).1 w1.stop:=B5.aZ m7 ⟨r7,B5.wr.wait.mod m7 fun b hb q=>B5.wr.rQ (q▸hb),B5.wr.last.mod m7 fun b hb q=>B5.wr.uR (q▸hb)⟩ fun _ q=>q
  refine ai.ld (c:=aa .i64) (i:=8) (x:=(w1.rows:Int)) B7.wr.row (bl.tail (j:=3) rfl) ?_
  exact hK F5 sw1 A7 B7.ae B7.wr B7.dis (fin F5 sw1 A7 _ _ hsub B7)
end
section
variable {F:Nat→Prop} {H:Heap} {p dp:Nat} {s:Pl} {n:ByteArray} {W:Int} {K:(Option Addr×Int)→Heap→Prop}
theorem tJ (hp:aI F H p dp s) (hn:n.size≤9223372036854775807) (hlogs:s.d.logs<68719460000) (hnx:s.next<1099511610000) (h0:0≤s.next) (hfit:s.Fit)
  (hK0:∀F' H',aI F' H' p dp (aH s n W).1→Step F F' H H'→(aH s n W).2.1=none→K (none,(aH s n W).2.2) H')
  (hK1:∀F' H' k w,aI F' H' p dp (aH s n W).1→Step F F' H H'→(aH s n W).2.1=some w→oI H' k p w gy gy→H.size≤k→¬F' k→K (ay k,(aH s n W).2.2) H'):EF.sp (ay p) n W H K:=by
 refine EF.of ?_
 unfold EF.vc
 simp only[ak,ay]
 refine ar rfl ?_
 refine eW ?_
 by_cases hr:aS W=0
 ·have em:aH s n W=(s,none,60):=if_pos hr
  rw[em] at hK0
  exact aU (by simpa using hr) (hK0 F H hp (.refl _ _) rfl)
 refine ar (by simpa using hr) ?_
 obtain⟨ll,hhd,_,hFp⟩:=hp.head
 refine ai.ld (c:=al) (i:=0) (x:=ay dp) hhd rfl ?_
 obtain⟨D,d1,_,d3⟩:=hp.bc
 refine vT d1 fun D' H4 d4 S4=>?_
 obtain⟨F4,p4,T4⟩:=d3 D' H4 _ d4 S4
 have em:aH s n W=if (s.d.create n).2≠0 then (s.aV (s.d.create n).1,none,(s.d.create n).2)
   else if ((s.aV (s.d.create n).1).more n 0 []).2≠0 then (((s.aV (s.d.create n).1).more n 0 []).1,none,((s.aV (s.d.create n).1).more n 0 []).2)
   else (((s.aV (s.d.create n).1).more n 0 []).1,some (rl n W),0):=by unfold aH;rw[if_neg hr]
 have hl4:(s.aV (s.d.create n).1).d.logs<68719470000:=by have:=s.d.gL n;show (s.d.create n).1.logs<_;omega
 have hf4:(s.aV (s.d.create n).1).Fit:=hfit.aV (s.d.iX n)
 have hn4:(s.aV (s.d.create n).1).next=s.next:=rfl
 generalize s.aV (s.d.create n).1=s4 at*
 generalize (s.d.create n).2=e4 at*
 refine ag (fun hc=>?_) (fun hc=>?_)
 ·have q:e4≠0:=by simpa using hc
  rw[if_pos q] at em
  rw[em] at hK0
  exact hK0 F4 H4 p4 T4 rfl
 have q:¬e4≠0:=by simpa using hc
 rw[if_neg q] at em
 refine au fun H5 z5 r5 e5=>?_
 have p5:=p4.ext e5
 have r5':bl H5 H4.size Ci p ⟨n,W,0,false⟩ [gy.v,.int .i64 ((0:Nat):Int),gy.v,.int .i64 ((0:Nat):Int)]:=r5
 have hk5:¬F4 H4.size:=fun q=>by have:=p4.lt _ q;omega
 refine wM (kd:=0) (sl:=Sl.mk none 0 0) (l:=[]) r5' p5 hk5 ⟨rfl,Reads.nil _ _⟩ (by intro ad q;cases q) hn hl4 (by omega) (by omega) hf4 fun F6 H6 p6 S6=>?_
 have T5:Step F F4 H H5:=T4.trans ⟨Ext.mod e5,fun b q=>.inl q⟩
 have r6:=r5'.mod S6.mod hk5
 have z4:=T4.mod.size
 refine ag (fun hc=>?_) (fun hc=>?_)
 ·have q:(s4.more n 0 []).2≠0:=by simpa using hc
  rw[if_pos q] at em
  rw[em] at hK0
  exact hK0 F6 H6 p6 (T5.trans S6) rfl
 ·have q:¬(s4.more n 0 []).2≠0:=by simpa using hc
  rw[if_neg q] at em
  rw[em] at hK1
  refine hK1 F6 H6 H4.size (rl n W) p6 (T5.trans S6) rfl ⟨r6,aG.nil _ _ _,aN.nil _ _ _ _⟩ z4 fun q=>?_
  rcases S6.own _ q with u|u
  ·exact hk5 u
  ·omega
end
def eU:Option Nat→Int
 |none=>-1
 |some k=>(k:Int)
structure w8 (H:Heap) (k p:Nat) (r:RR) (si:Sl) (rs:List Sl):Prop where
 row:ba H k FA p r.b [.int .i64 (r.rows:Int),.int .i64 (r.at_:Int),.int .i64 (eU r.page),si.v]
 ins:aT H 0 si rs r.ins
def gV (k:Nat) (si:Sl) (rs:List Sl) (b:Nat):Prop:=b=k∨aj si b∨∃x∈rs,aj x b
section
variable {H:Heap} {k p:Nat} {r:RR} {si:Sl} {rs:List Sl}
theorem w8.lt (h:w8 H k p r si rs):∀b,gV k si rs b→b<H.size:=by
 rintro b (rfl|q|⟨x,hx,q⟩)
 ·exact az h.row
 ·exact(h.ins.block.1 b q).2
 ·exact(h.ins.block.2 x hx b q).2
theorem w8.mod {G:Nat→Prop} {H':Heap} (h:w8 H k p r si rs) (m:Mod G H H') (hn:∀b,gV k si rs b→¬G b):w8 H' k p r si rs:=
 ⟨h.row.mod m (hn k (.inl rfl)),h.ins.mod m (fun b hb=>hn b (.inr (.inl hb))) fun x hx b hb=>hn b (.inr (.inr ⟨x,hx,hb⟩))⟩
theorem w8.nN (h:w8 H k p r si rs):¬aj si k:=fun q=>by
 obtain⟨cur,hc⟩:=h.ins.out.obj k q
 exact absurd (aL hc h.row) (by decide)
theorem w8.ly (h:w8 H k p r si rs):∀x∈rs,¬aj x k:=fun x hx q=>by
 obtain⟨l,hl⟩:=h.ins.rowAt hx
 obtain⟨cur,hc⟩:=hl.obj k q
 exact absurd (aL hc h.row) (by decide)
end
structure cO (H0:Heap) (F0 O0:Nat→Prop) (k p dp:Nat) (si:Sl) (rs:List Sl) (F:Nat→Prop) (A:Heap) (s:Pl) (r:RR):Prop where
 ae:aE F A p dp s
 rd:w8 A k p r si rs
 dis:∀b,F b→¬gV k si rs b
 mod:Mod (fun b=>F0 b∨b=k) H0 A
 own:∀b,F b→F0 b∨H0.size≤b
 own2:∀b,gV k si rs b→O0 b∨H0.size≤b
section
variable {H0:Heap} {F0 O0:Nat→Prop} {k p dp:Nat} {si:Sl} {rs:List Sl} {F:Nat→Prop} {A:Heap} {s:Pl} {r:RR}
theorem cO.step {F':Nat→Prop} {A':Heap} {s':Pl} (h:cO H0 F0 O0 k p dp si rs F A s r) (hp:aE F' A' p dp s') (S:Step F F' A A'):cO H0 F0 O0 k p dp si rs F' A' s' r:=by
 refine⟨hp,h.rd.mod S.mod fun b hb q=>h.dis b q hb,fun b hb q=>?_,h.mod.trans' S.mod fun b hb q=>?_,fun b hb=>?_,h.own2⟩
 ·rcases S.own b hb with r|r
  ·exact h.dis b r q
  ·have:=h.rd.lt b q;omega
 ·rcases h.own b q with r|r
  ·exact .inl r
  ·omega
 ·rcases S.own b hb with r|r
  ·exact h.own b r
  ·right;have:=h.mod.size;omega
theorem cO.ext {A':Heap} (h:cO H0 F0 O0 k p dp si rs F A s r) (e:Ext A A'):cO H0 F0 O0 k p dp si rs F A' s r:=h.step (h.ae.ext e) ⟨e.mod,fun _ q=>.inl q⟩
theorem cO.gl (h:cO H0 F0 O0 k p dp si rs F A s r) (hg:Gl H0) (h1:¬F0 bo) (h2:bo≠k):Gl A:=hg.keep (h.mod.same _ hg.lt fun q=>q.elim h1 h2)
theorem cO.aZ {A':Heap} {r':RR} {si':Sl} {rs':List Sl} (h:cO H0 F0 O0 k p dp si rs F A s r) (m:Mod (fun b=>b=k) A A') (hr:w8 A' k p r' si' rs') (hs:∀b,gV k si' rs' b→gV k si rs b∨(H0.size≤b∧¬F b)):cO H0 F0 O0 k p dp si' rs' F A' s r':=by
 refine⟨h.ae.keep fun b hb hl=>m.same b hl fun q=>h.dis b hb (.inl q),hr,fun b hb q=>?_,h.mod.trans' m fun b _ q=>.inr q,h.own,fun b q=>?_⟩
 ·rcases hs b q with u|u
  ·exact h.dis b hb u
  ·exact u.2 hb
 ·rcases hs b q with u|u
  ·exact h.own2 b u
  ·exact .inr u.1
theorem cO.bV {e:Int} {K:Int→Heap→Prop} (h:cO H0 F0 O0 k p dp si rs F A s r) (hK:∀A',cO H0 F0 O0 k p dp si rs F A' s {r with b:=r.b.bV e}→A.size≤A'.size→K e A'):wP.sp (ay k) e A K:=by
 refine nc h.rd.row fun A' r' m' z'=>hK A' (h.aZ m' ⟨r',h.rd.ins.mod m' (fun b hb q=>h.rd.nN (q▸hb)) fun x hx b hb q=>h.rd.ly x hx (q▸hb)⟩ fun b q=>.inl q) (Nat.le_of_eq z'.symm)
theorem rm {b:List Int} {w:Int}:∀l∈fS b w,l.length≤16:=by
 unfold fS
 split
 ·rename_i h
  unfold da at h
  simp only[Bool.and_eq_true,decide_eq_true_eq] at h
  have hw:w≤16:=by
   have h1:=h.1.1
   unfold bg at h1
   split at h1
   ·exact absurd rfl h1
   ·omega
  intro l hl
  obtain⟨k,_,rfl⟩:=List.mem_map.1 hl
  rw[eF];omega
 ·simp
structure RR.Ok (r:RR):Prop where
 room:0<r.b.room
 at_:r.at_≤r.rows
 page:∀j,r.page=some j→r.ins.length=min r.b.room (r.rows - j*r.b.room)
 rows:r.rows≤528482304
 cols:∀l∈r.ins,l.length≤16
theorem cA (b:Rb):aS b.width=(b.room:Int)∧b.room≤504:=by
 unfold Rb.room
 have h:=dW b.width
 have h0:0≤aS b.width∧aS b.width≤504:=by
  unfold aS
  split
  ·omega
  ·refine⟨Int.tdiv_nonneg (by omega) (by omega),Int.tdiv_le_self _ (by omega)⟩
 omega
theorem Rb.iT (b:Rb) (e:Int):(b.bV e).room=b.room∧(b.bV e).width=b.width∧(b.bV e).name=b.name:=by
 unfold Rb.bV;split<;>exact⟨rfl,rfl,rfl⟩
theorem RR.dz {j:Nat} (h:r.Ok):(r.load s j).2.1.Ok∧(r.load s j).2.1.rows=r.rows∧(r.load s j).2.1.at_=r.at_∧(r.load s j).2.1.b.width=r.b.width∧(r.load s j).2.1.b.name=r.b.name∧((r.load s j).2.2=0→(r.load s j).2.1.b=r.b∧(r.load s j).2.1.page=some j):=by
 unfold RR.load
 split
 ·rename_i hp
  exact⟨h,rfl,rfl,rfl,rfl,fun _=>⟨rfl,hp⟩⟩
 ·split
  ·rename_i _ he
   obtain⟨b1,b2,b3⟩:=r.b.iT (s.look r.b.name ((j:Int)+1)).2.2.2
   exact⟨⟨by simp only[b1];exact h.room,h.at_,by simp only[b1];exact h.page,h.rows,h.cols⟩,rfl,rfl,b2,b3,fun q=>absurd q he⟩
  ·split
   ·rename_i hf
    refine⟨⟨h.room,h.at_,fun i hi=>?_,h.rows,rm⟩,rfl,rfl,rfl,rfl,fun _=>⟨rfl,rfl⟩⟩
    simp only at hi
    cases hi
    unfold RR.fits at hf
    simp only[Bool.and_eq_true,decide_eq_true_eq] at hf
    exact hf.2
   ·obtain⟨b1,b2,b3⟩:=r.b.iT 280
    exact⟨⟨by simp only[b1];exact h.room,h.at_,by simp only[b1];exact h.page,h.rows,h.cols⟩,rfl,rfl,b2,b3,fun q=>by simp at q⟩
set_option maxHeartbeats 1000000 in
theorem pq {j:Nat} {K:Int→Heap→Prop} (hg:Gl H0) (hF0:¬F0 bo) (hk0:bo≠k) (h:cO H0 F0 O0 k p dp si rs F A s r) (ok:r.Ok) (hj:j*r.b.room≤r.rows) (hj2:j<1099511627776)
  (hn:r.b.name.size≤9223372036854775807) (hlogs:s.d.logs<68719470000) (hnx:s.next<1099511627776) (h0:0≤s.next)
  (hK:∀F' si' rs' A',cO H0 F0 O0 k p dp si' rs' F' A' (r.load s j).1 (r.load s j).2.1→A.size≤A'.size→K (r.load s j).2.2 A'):Bw.sp (ay k) (j:Int) A K:=by
 refine Bw.of ?_
 unfold Bw.vc
 unfold ay
 simp only[ak]
 obtain⟨rm1,rm2⟩:=cA r.b
 unfold RR.load at hK
 refine ai.ld (c:=aa .i64) (i:=8) (x:=eU r.page) h.rd.row (ba.tail (j:=2) rfl) ?_
 by_cases hp:r.page=some j
 ·rw[if_pos hp] at hK
  refine aU (by rw[hp];simp[eU]) ?_
  exact hK F si rs A h (Nat.le_refl _)
 rw[if_neg hp] at hK
 refine ar ?_ ?_
 ·cases e:r.page with
  |none=>simp only[eU,beq_eq_false_iff_ne,ne_eq];omega
  |some i=>
    have:i≠j:=fun q=>hp (by rw[e,q])
    simp only[eU,beq_eq_false_iff_ne,ne_eq];omega
 rw[aK j (by omega)]
 refine uE (h.gl hg hF0 hk0) h.rd.row h.ae (fun q=>h.dis k q (.inl rfl)) (by omega) hn hlogs hnx h0 fun F1 A1 sl p1 S1 o1 f1 hb1=>?_
 have e1:((j+1:Nat):Int)=(j:Int)+1:=by omega
 rw[e1] at p1 o1 hb1 ⊢
 have B1:=h.step p1 S1
 generalize (s.look r.b.name ((j:Int)+1)).1=s1 at*
 generalize (s.look r.b.name ((j:Int)+1)).2.1=kd at*
 generalize (s.look r.b.name ((j:Int)+1)).2.2.1=b at*
 generalize (s.look r.b.name ((j:Int)+1)).2.2.2=e at*
 refine ag (fun hc=>?_) (fun hc=>?_)
 ·have e0:e≠0:=by simpa using hc
  rw[if_pos e0] at hK
  exact B1.bV fun A2 B2 z2=>hK F1 si rs A2 B2 (Nat.le_trans S1.mod.size z2)
 have e0:¬e≠0:=by simpa using hc
 rw[if_neg e0] at hK
 refine ai.ld (c:=aa .i64) (i:=2) (x:=r.b.width) B1.rd.row (ba.get 2 _ rfl) ?_
 refine qt (b:=di b) (bM o1) o1.cap (fun x hx=>?_) (by rw[iB];omega) fun sr rs2 A2 ro e2=>?_
 ·unfold di at hx
  obtain⟨c,_,rfl⟩:=List.mem_map.1 hx
  have:=c.toNat_lt;omega
 have B2:=B1.ext e2
 have hfit:r.fits j kd b=true↔(kd=1∧kq (di b) r.b.width=0∧(fS (di b) r.b.width).length=min r.b.room (r.rows - j*r.b.room)):=by
  unfold RR.fits kq
  simp only[Bool.and_eq_true,beq_iff_eq,decide_eq_true_eq]
  cases da (di b) r.b.width<;>simp
 refine ag (fun hc=>?_) (fun hc=>?_)
 ·have hnf:¬r.fits j kd b=true:=fun q=>by
   obtain⟨q1,q2,_⟩:=hfit.1 q
   rw[q2,q1] at hc
   simp at hc
  rw[if_neg hnf] at hK
  exact B2.bV fun A3 B3 z3=>hK F1 si rs A3 B3 (by have:=S1.mod.size;have:=e2.size;omega)
 have hkd:kd=1∧kq (di b) r.b.width=0:=by
  simp only[Bool.or_eq_false_iff,bne_eq_false_iff_eq] at hc
  refine⟨?_,hc.2⟩
  have:kd.toNat=1:=by omega
  exact UInt8.toNat_inj.1 this
 refine ai.ld (c:=aa .i64) (i:=3) (x:=aS r.b.width) B2.rd.row (ba.get 3 _ rfl) ?_
 refine ai.ld (c:=aa .i64) (i:=6) (x:=(r.rows:Int)) B2.rd.row (ba.tail (j:=0) rfl) ?_
 refine ai.ld (c:=aa .i64) (i:=3) (x:=aS r.b.width) B2.rd.row (ba.get 3 _ rfl) ?_
 have hjr:(j:Int)*(r.b.room:Int)=((j*r.b.room:Nat):Int):=by simp
 have hw1:IntKind.i64.wrap ((j:Int)*aS r.b.width)=((j*r.b.room:Nat):Int):=by
  rw[rm1,hjr];have:=ok.rows;exact wrap64 (by omega) (by omega)
 have hw2:IntKind.i64.wrap ((r.rows:Int) - ((j*r.b.room:Nat):Int))=((r.rows - j*r.b.room:Nat):Int):=by
  have:=ok.rows;rw[wrap64 (by omega) (by omega)];omega
 rw[hw1,hw2,rm1,ro.n]
 have hmin:(if ((r.rows - j*r.b.room:Nat):Int)<(r.b.room:Int) then ((r.rows - j*r.b.room:Nat):Int) else (r.b.room:Int))=((min r.b.room (r.rows - j*r.b.room):Nat):Int):=by
  split<;>omega
 rw[hmin]
 refine ag (fun hc=>?_) (fun hc=>?_)
 ·have hnf:¬r.fits j kd b=true:=fun q=>by
   obtain⟨_,_,q3⟩:=hfit.1 q
   rw[q3] at hc
   simp at hc
  rw[if_neg hnf] at hK
  exact B2.bV fun A3 B3 z3=>hK F1 si rs A3 B3 (by have:=S1.mod.size;have:=e2.size;omega)
 have hln:((fS (di b) r.b.width).length:Int)=((min r.b.room (r.rows - j*r.b.room):Nat):Int):=by simpa only[bne_eq_false_iff_eq] using hc
 have hf:r.fits j kd b=true:=hfit.2 ⟨hkd.1,hkd.2,Int.ofNat.inj hln⟩
 rw[if_pos hf] at hK
 refine ai.st B2.rd.row (i:=8) (by simp[bw]) rfl fun A3 r3 m3 z3=>?_
 refine ai.st r3 (i:=9) (by simp[bw]) rfl fun A4 r4 m4 z4=>?_
 have m24:=m3.trans m4
 have r4':ba A4 k FA p r.b [.int .i64 (r.rows:Int),.int .i64 (r.at_:Int),.int .i64 (eU (some j)),sr.v]:=by
  have e:((bw p r.b++[.int .i64 (r.rows:Int),.int .i64 (r.at_:Int),.int .i64 (eU r.page),si.v]).toArray.setIfInBounds 8 (.int .i64 (j:Int))).setIfInBounds 9 sr.v=(bw p r.b++[.int .i64 (r.rows:Int),.int .i64 (r.at_:Int),.int .i64 (eU (some j)),sr.v]).toArray:=by
   simp[bw,eU]
  rw[e] at r4;exact r4
 have hbl:=ro.block
 have hk1:k<A1.size:=az B1.rd.row
 have hz1:=B1.mod.size
 have ro0:aT A2 0 sr rs2 (fS (di b) r.b.width):=⟨ro.out.tC,ro.len,fun i x l h1 h2=>(ro.row i x l h1 h2).tC,ro.apart⟩
 have rn:w8 A4 k p {r with page:=some j,ins:=fS (di b) r.b.width} sr rs2:=
  ⟨r4',ro0.mod m24 (fun b hb q=>by have:=(hbl.1 b hb).1;omega) fun x hx b hb q=>by have:=(hbl.2 x hx b hb).1;omega⟩
 refine hK F1 sr rs2 A4 (B2.aZ m24 rn fun b hb=>?_) (by have:=S1.mod.size;have:=e2.size;have:=m24.size;omega)
 rcases hb with q|q|⟨x,hx,q⟩
 ·exact .inl (.inl q)
 ·have:=(hbl.1 b q).1
  exact .inr ⟨by omega,fun u=>by have:=p1.lt b u;omega⟩
 ·have:=(hbl.2 x hx b q).1
  exact .inr ⟨by omega,fun u=>by have:=p1.lt b u;omega⟩
theorem yz {K:(Sl×Bool×Int)→Heap→Prop} (hg:Gl H0) (hF0:¬F0 bo) (hk0:bo≠k) (h:cO H0 F0 O0 k p dp si rs F A s r) (ok:r.Ok)
  (hn:r.b.name.size≤9223372036854775807) (hlogs:s.d.logs<68719470000) (hnx:s.next<1099511627776) (h0:0≤s.next)
  (hK:∀F' si' rs' A' l,cO H0 F0 O0 k p dp si' rs' F' A' (r.next s).1 (r.next s).2.1→aN A' 0 iw 1 l ((r.next s).2.2.1.map (Value.int .u64))→(∀b,aj l b→A.size≤b∧¬F' b∧¬gV k si' rs' b)→((r.next s).2.2.2.1=false→l=Sl.mk none 0 0)→K (l,(r.next s).2.2.2.1,(r.next s).2.2.2.2) A'):xV.sp (ay k) A K:=by
 refine xV.of ?_
 unfold xV.vc
 unfold ay
 refine ar rfl ?_
 simp only[ak]
 obtain⟨rm1,rm2⟩:=cA r.b
 unfold RR.next at hK
 refine j4 h.rd.row ?_
 refine ag (fun hc=>?_) (fun hc=>?_)
 ·have e0:r.b.ready≠0:=by simpa using hc
  rw[if_pos e0] at hK
  exact hK F si rs A _ h (aN.nil _ _ _ _) (fun b q=>absurd q (cF b)) (fun _=>rfl)
 have e0:¬r.b.ready≠0:=by simpa using hc
 have e0':r.b.ready=0:=by omega
 rw[if_neg e0] at hK
 refine ai.ld (c:=aa .i64) (i:=7) (x:=(r.at_:Int)) h.rd.row (ba.tail (j:=1) rfl) ?_
 refine ai.ld (c:=aa .i64) (i:=6) (x:=(r.rows:Int)) h.rd.row (ba.tail (j:=0) rfl) ?_
 refine ag (fun hc=>?_) (fun hc=>?_)
 ·have e1 : r.at_ = r.rows := by have : (r.at_ : Int) = (r.rows : Int) := by simpa using hc
                                 omega
  rw[if_pos e1] at hK
  rw[e0']
  exact hK F si rs A _ h (aN.nil _ _ _ _) (fun b q=>absurd q (cF b)) (fun _=>rfl)
 have e1:¬r.at_=r.rows:=fun q=>by rw[q] at hc;simp at hc
 rw[if_neg e1] at hK
 have hat:r.at_<r.rows:=by have:=ok.at_;omega
 refine ai.ld (c:=aa .i64) (i:=7) (x:=(r.at_:Int)) h.rd.row (ba.tail (j:=1) rfl) ?_
 refine ai.ld (c:=aa .i64) (i:=3) (x:=aS r.b.width) h.rd.row (ba.get 3 _ rfl) ?_
 have hrm:=ok.room
 have hrw:=ok.rows
 rw[rm1]
 refine⟨by omega,?_⟩
 have hdiv:IntKind.i64.wrap (Int.tdiv (r.at_:Int) (r.b.room:Int))=((r.at_/r.b.room:Nat):Int):=by
  have h1:Int.tdiv (r.at_:Int) (r.b.room:Int)=((r.at_/r.b.room:Nat):Int):=rfl
  have h2:=Nat.div_le_self r.at_ r.b.room
  rw[h1];generalize r.at_/r.b.room=q at h2 ⊢;exact wrap64 (by omega) (by omega)
 rw[hdiv]
 have hq1:=Nat.div_mul_le_self r.at_ r.b.room
 have hq2:=Nat.div_le_self r.at_ r.b.room
 refine pq hg hF0 hk0 h ok (by omega) (by omega) hn hlogs hnx h0 fun F1 si1 rs1 A1 B1 hz=>?_
 obtain⟨k1,k2,k3,k4,_,k6⟩:=RR.dz (s:=s) (j:=r.at_/r.b.room) ok
 generalize (r.load s (r.at_/r.b.room)).1=s1 at*
 generalize (r.load s (r.at_/r.b.room)).2.1=r1 at*
 generalize (r.load s (r.at_/r.b.room)).2.2=e2 at*
 refine ag (fun hc=>?_) (fun hc=>?_)
 ·have e3:e2≠0:=by simpa using hc
  rw[if_pos e3] at hK
  exact hK F1 si1 rs1 A1 _ B1 (aN.nil _ _ _ _) (fun b q=>absurd q (cF b)) (fun _=>rfl)
 have e3:¬e2≠0:=by simpa using hc
 rw[if_neg e3] at hK
 obtain⟨k7,k8⟩:=k6 (by omega)
 have hlen:=k1.page _ k8
 rw[k7,k2] at hlen
 have hm:=Nat.mod_lt r.at_ hrm
 have hdm:=Nat.div_add_mod r.at_ r.b.room
 have hmc:r.b.room*(r.at_/r.b.room)=r.at_/r.b.room*r.b.room:=Nat.mul_comm _ _
 have hin:r.at_%r.b.room<r1.ins.length:=by rw[hlen];omega
 refine ai.ld (c:=aq) (i:=9) (x:=si1) B1.rd.row (ba.tail (j:=3) rfl) ?_
 refine ai.ld (c:=aa .i64) (i:=7) (x:=(r1.at_:Int)) B1.rd.row (ba.tail (j:=1) rfl) ?_
 refine ai.ld (c:=aa .i64) (i:=3) (x:=aS r1.b.width) B1.rd.row (ba.get 3 _ rfl) ?_
 rw[k7,rm1,k3]
 refine⟨by omega,?_⟩
 have hmod:Int.tmod (r.at_:Int) (r.b.room:Int)=((r.at_%r.b.room:Nat):Int):=rfl
 rw[hmod]
 refine B1.rd.ins.rows.ld hin fun ad x ha hx=>?_
 have hcol:=k1.cols _ (List.getElem_mem hin)
 refine qw hx (by omega) fun l A2 o2 x2 f2=>?_
 have B2:=B1.ext x2
 refine ai.ld (c:=aa .i64) (i:=7) (x:=(r1.at_:Int)) B2.rd.row (ba.tail (j:=1) rfl) ?_
 refine ai.st B2.rd.row (i:=7) (by simp[bw]) rfl fun A3 r3 m3 z3=>?_
 rw[k3,aK r.at_ (by omega)] at r3
 have r3':ba A3 k FA p r1.b [.int .i64 (r1.rows:Int),.int .i64 ((r.at_+1:Nat):Int),.int .i64 (eU r1.page),si1.v]:=by
  have e:(bw p r1.b++[.int .i64 (r1.rows:Int),.int .i64 (r.at_:Int),.int .i64 (eU r1.page),si1.v]).toArray.setIfInBounds 7 (.int .i64 ((r.at_+1:Nat):Int))=(bw p r1.b++[.int .i64 (r1.rows:Int),.int .i64 ((r.at_+1:Nat):Int),.int .i64 (eU r1.page),si1.v]).toArray:=by
   simp[bw]
  rw[e] at r3;exact r3
 have B3:cO H0 F0 O0 k p dp si1 rs1 F1 A3 s1 {r1 with at_:=r.at_+1}:=B2.aZ m3 ⟨r3',B2.rd.ins.mod m3 (fun b hb q=>B2.rd.nN (q▸hb)) fun x hx b hb q=>B2.rd.ly x hx (q▸hb)⟩ fun b q=>.inl q
 have hlt1:∀b,gV k si1 rs1 b→b<A1.size:=B1.rd.lt
 have hk1:k<A1.size:=hlt1 k (.inl rfl)
 refine hK F1 si1 rs1 A3 l B3 ?_ (fun b hb=>?_) fun u=>(by cases u)
 ·have eg:r1.ins.getD (r.at_%r.b.room) []=r1.ins[r.at_%r.b.room]:=by rw[List.getD,List.getElem?_eq_getElem hin];rfl
  rw[eg]
  exact o2.mod m3 fun b hb q=>by have:=f2 b hb;omega
 ·have:=f2 b hb
  exact⟨by omega,fun q=>by have:=B1.ae.lt b q;omega,fun q=>by have:=hlt1 b q;omega⟩
theorem tg {K:(Sl×Bool×Int)→Heap→Prop} (hg:Gl H0) (hF0:¬F0 bo) (hk0:bo≠k) (h:cO H0 F0 O0 k p dp si rs F A s r) (ok:r.Ok)
  (hn:r.b.name.size≤9223372036854775807) (hlogs:s.d.logs<68719470000) (hnx:s.next<1099511627776) (h0:0≤s.next)
  (hK:∀F' si' rs' A' l,cO H0 F0 O0 k p dp si' rs' F' A' (r.next s).1 (r.next s).2.1→aN A' 0 iw 1 l ((r.next s).2.2.1.map (Value.int .u64))→(∀b,aj l b→A.size≤b∧¬F' b∧¬gV k si' rs' b)→K (l,(r.next s).2.2.2.1,(r.next s).2.2.2.2) A'):xV.sp (ay k) A K:=
 yz hg hF0 hk0 h ok hn hlogs hnx h0 fun F' si' rs' A' l a b c _=>hK F' si' rs' A' l a b c
end
section
variable {H0:Heap} {F0 O0:Nat→Prop} {k p dp:Nat} {si:Sl} {rs:List Sl} {F:Nat→Prop} {A:Heap} {s:Pl} {r:RR} {c c1:Addr} {low:Sl} {ll:List Int}
theorem cO.start (h:cO H0 F0 O0 k p dp si rs F A s r):cO A F (gV k si rs) k p dp si rs F A s r:=⟨h.ae,h.rd,h.dis,.refl _ _,fun _ q=>.inl q,fun _ q=>.inl q⟩
theorem cO.trans {si':Sl} {rs':List Sl} {F':Nat→Prop} {A':Heap} {s':Pl} {r':RR} (h:cO H0 F0 O0 k p dp si rs F A s r) (g:cO A F (gV k si rs) k p dp si' rs' F' A' s' r'):cO H0 F0 O0 k p dp si' rs' F' A' s' r':=by
 have z:=h.mod.size
 refine⟨g.ae,g.rd,g.dis,h.mod.trans' g.mod fun b hb q=>?_,fun b hb=>?_,fun b hb=>?_⟩
 ·rcases q with q|q
  ·rcases h.own b q with u|u
   ·exact .inl u
   ·omega
  ·exact .inr q
 ·rcases g.own b hb with q|q
  ·exact h.own b q
  ·right;omega
 ·rcases g.own2 b hb with q|q
  ·exact h.own2 b q
  ·right;omega
theorem RR.oF {j:Nat} (h:(r.load s j).2.2≠0):(r.load s j).2.1.b.wrong=(r.load s j).2.2:=by
 unfold RR.load at h ⊢
 split
 ·rename_i hp;rw[if_pos hp] at h;exact absurd rfl h
 ·rename_i hp
  rw[if_neg hp] at h
  split
  ·rename_i he;simp only[Rb.bV];rw[if_pos he]
  ·rename_i he
   rw[if_neg he] at h
   split
   ·rename_i hf;rw[if_pos hf] at h;exact absurd rfl h
   ·rfl
theorem Pl.tK {s:Pl} {n:ByteArray} {g:Int} (h0:0≤s.next) (h1:s.next<1099511627776):(s.look n g).1.d.logs≤s.d.logs+1∧(s.look n g).1.next≤s.next+1:=by
 have a:=s.lZ n g
 have b:=s.ie (n:=n) (k:=g) h0 h1
 unfold Pl.look
 split
 ·exact⟨a,b⟩
 ·split
  ·exact⟨a,b⟩
  ·simp only
   rw[Pl.nV,Pl.iZ]
   exact⟨a,b⟩
theorem RR.nA {j:Nat} (h0:0≤s.next) (h1:s.next<1099511627776):(r.load s j).1.d.logs≤s.d.logs+1∧(r.load s j).1.next≤s.next+1:=by
 have:=Pl.tK (n:=r.b.name) (g:=(j:Int)+1) h0 h1
 unfold RR.load
 split
 ·exact⟨Nat.le_succ _,by show s.next≤s.next+1;omega⟩
 ·split
  ·exact this
  ·split<;>exact this
theorem fY {j n room:Nat} (hr:0<room) (h:j<av n room):j*room<n:=by
 unfold av at h
 have h1:j+1≤(n+room - 1)/room:=h
 rw[Nat.le_div_iff_mul_le hr,Nat.add_mul] at h1
 omega
theorem cS {n room:Nat} (hr:0<room):av n room≤n:=by
 unfold av
 rcases Nat.eq_zero_or_pos n with h|h
 ·subst h;rw[Nat.div_eq_of_lt (by omega)];omega
 ·apply Nat.le_of_lt_succ
  rw[Nat.div_lt_iff_lt_mul hr,Nat.succ_mul]
  have:=Nat.le_mul_of_pos_right n hr
  omega
structure pf (HB:Heap) (F0:Nat→Prop) (k:Nat) (c c1:Addr) (low:Sl) (ll:List Int):Prop where
 cap:cW HB c Gy (.pointer (ay k))
 cap1:cW HB c1 jc low.v
 rd:Ints .u64 HB low ll
 offF:∀b,F0 b→b≠c.block∧b≠c1.block∧∀ad,low.a=some ad→ll≠[]→b≠ad.block
 offk:k≠c.block∧k≠c1.block∧∀ad,low.a=some ad→ll≠[]→k≠ad.block
theorem pf.at (h:pf H0 F0 k c c1 low ll) {A:Heap} (m:Mod (fun b=>F0 b∨b=k) H0 A):cW A c Gy (.pointer (ay k))∧cW A c1 jc low.v∧Ints .u64 A low ll:=by
 refine⟨h.cap.mod m fun q=>?_,h.cap1.mod m fun q=>?_,?_⟩
 ·rcases q with q|q
  ·exact(h.offF _ q).1 rfl
  ·exact h.offk.1 q.symm
 ·rcases q with q|q
  ·exact(h.offF _ q).2.1 rfl
  ·exact h.offk.2.1 q.symm
 ·by_cases hne:ll=[]
  ·subst hne
   exact⟨h.rd.len,fun i v hv=>by simp at hv⟩
  refine h.rd.mod m fun ad ha q=>?_
  rcases q with q|q
  ·exact(h.offF _ q).2.2 ad ha hne rfl
  ·exact h.offk.2.2 ad ha hne q.symm
theorem BW {j:Nat} {K:Bool→Heap→Prop} (C:pf H0 F0 k c c1 low ll) (hlow:ll.length≤1000000) (hg:Gl H0) (hF0:¬F0 bo) (hk0:bo≠k) (h:cO H0 F0 O0 k p dp si rs F A s r) (ok:r.Ok) (hj:j<av r.rows r.b.room) (hw:r.b.wrong=0)
  (hn:r.b.name.size≤9223372036854775807) (hlogs:s.d.logs<68719470000) (hnx:s.next<1099511627776) (h0:0≤s.next)
  (hK:∀F' si' rs' A',cO H0 F0 O0 k p dp si' rs' F' A' (r.load s j).1 (r.load s j).2.1→K (decide ((r.load s j).2.2≠0∨¬bt (jh (r.load s j).2.1.ins) ll<0)) A'):xR.sp (j:Int) c c1 A K:=by
 refine xR.of ?_
 unfold xR.vc
 have hpr:=fY ok.room hj
 have hj2:j<1099511627776:=by have:=cS (n:=r.rows) ok.room;have:=ok.rows;omega
 refine(C.at h.mod).1.ld (c:=al) (x:=ay k) ?_
 unfold ay
 simp only[ak]
 refine ai.ld (c:=aa .i64) (i:=4) (x:=r.b.wrong) h.rd.row (ba.get 4 _ rfl) ?_
 refine ar (by rw[hw];rfl) ?_
 refine(C.at h.mod).1.ld (c:=al) (x:=ay k) ?_
 refine pq hg hF0 hk0 h ok (by omega) hj2 hn hlogs hnx h0 fun F1 si1 rs1 A1 B1 hz=>?_
 obtain⟨k1,k2,k3,k4,_,k6⟩:=RR.dz (s:=s) (j:=j) ok
 generalize (r.load s j).1=s1 at*
 generalize (r.load s j).2.1=r1 at*
 generalize (r.load s j).2.2=e2 at*
 have hq:=hK F1 si1 rs1 A1 B1
 refine ag (fun hc=>?_) (fun hc=>?_)
 ·have e3:e2≠0:=by simpa using hc
  rw[decide_eq_true (Or.inl e3)] at hq
  exact hq
 have e3:e2=0:=by simpa using hc
 obtain⟨k7,k8⟩:=k6 e3
 have hlen:=k1.page _ k8
 rw[k7,k2] at hlen
 have hpos:0<r1.ins.length:=by rw[hlen];have:=ok.room;omega
 obtain⟨z1,z2,z3⟩:=C.at B1.mod
 refine z1.ld (c:=al) (x:=ay k) ?_
 unfold ay
 simp only[ak]
 refine ai.ld (c:=aq) (i:=9) (x:=si1) B1.rd.row (ba.tail (j:=3) rfl) ?_
 refine z1.ld (c:=al) (x:=ay k) ?_
 unfold ay
 simp only[ak]
 refine ai.ld (c:=aq) (i:=9) (x:=si1) B1.rd.row (ba.tail (j:=3) rfl) ?_
 have hil:r1.ins.length≤504:=by have:=(cA r.b).2;rw[hlen];omega
 have hlast:IntKind.i64.wrap ((si1.n:Int) - 1)=((r1.ins.length - 1:Nat):Int):=by
  rw[B1.rd.ins.n,wrap64 (by omega) (by omega)];omega
 rw[hlast]
 refine B1.rd.ins.rows.ld (by omega) fun ad x ha hx=>?_
 refine z2.ld (c:=aq) (x:=low) ?_
 have hcol:=k1.cols _ (List.getElem_mem (show r1.ins.length - 1<r1.ins.length by omega))
 refine kf hx z3 (by omega) ?_
 have el:jh r1.ins=r1.ins[r1.ins.length - 1]:=by
  unfold jh;rw[List.getD,List.getElem?_eq_getElem (by omega)];rfl
 rw[el] at hq
 have ed:decide (e2≠0∨¬bt r1.ins[r1.ins.length - 1] ll<0)=decide (bt r1.ins[r1.ins.length - 1] ll≥0):=by
  rw[decide_eq_decide];omega
 rw[ed] at hq
 exact hq
theorem uT {K:Int→Heap→Prop} (C:pf H0 F0 k c c1 low ll) (hlow:ll.length≤1000000) (hg:Gl H0) (hF0:¬F0 bo) (hk0:bo≠k) (h:cO H0 F0 O0 k p dp si rs F A s r) (ok:r.Ok) (hw:r.b.wrong=0)
  (hn:r.b.name.size≤9223372036854775807) (hlogs:s.d.logs+528482304<68719470000) (hnx:s.next+528482304<1099511627776)
  (hK0:∀F' si' rs' A' i,(r.find s ll).2.2.2≠0→(r.find s ll).2.1.b.wrong=(r.find s ll).2.2.2→cO H0 F0 O0 k p dp si' rs' F' A' (r.find s ll).1 (r.find s ll).2.1→K i A')
  (hK1:∀F' si' rs' A',(r.find s ll).2.2.2=0→(r.find s ll).2.1.b=r.b→(r.find s ll).2.1.rows=r.rows→(r.find s ll).2.1.Ok→(r.find s ll).2.2.1≤av r.rows r.b.room→cO H0 F0 O0 k p dp si' rs' F' A' (r.find s ll).1 (r.find s ll).2.1→K ((r.find s ll).2.2.1:Int) A'):
  D9.sp (av r.rows r.b.room:Int) c c1 A K:=by
 refine D9.of ?_
 unfold D9.vc
 have hN:av r.rows r.b.room≤528482304:=by have:=cS (n:=r.rows) ok.room;have:=ok.rows;omega
 obtain⟨T,hT⟩:∃T,T=r.find s ll:=⟨_,rfl⟩
 obtain⟨N,hNN⟩:∃N,N=av r.rows r.b.room:=⟨_,rfl⟩
 rw[←hT] at hK0 hK1
 rw[←hNN] at hK1 hN ⊢
 refine aw N (fun m z A'=>∃(i j:Nat) (s':Pl) (r':RR) (F':Nat→Prop) (si':Sl) (rs':List Sl),z=((i:Int),(j:Int))∧i≤j∧j≤N∧j - i+m≤N∧cO H0 F0 O0 k p dp si' rs' F' A' s' r'∧(s'.d.logs≤s.d.logs+m∧s'.next≤s.next+m)∧
  ((RR.cw ll (N - m) i j s' r'=T∧r'.b=r.b∧r'.rows=r.rows∧r'.Ok)∨(T.1=s'∧T.2.1=r'∧T.2.2.2≠0∧r'.b.wrong=T.2.2.2))) ?_ ?_
 ·refine⟨0,N,s,r,F,si,rs,rfl,Nat.zero_le _,Nat.le_refl _,by omega,h,⟨Nat.le_refl _,by omega⟩,.inl ⟨?_,rfl,rfl,ok⟩⟩
  rw[hT,hNN];rfl
 rintro m _ A1 next hm ⟨i,j,s1,r1,F1,si1,rs1,rfl,hij,hjN,hmn,B1,⟨b1,b2⟩,hT1⟩ hnext
 refine ag (fun hc=>?_) (fun hc=>?_)
 ·have hlt : i < j := by have : (i : Int) < (j : Int) := by simpa using hc
                         omega
  have hmid:=rI (i:=i) (j:=j) (by omega)
  simp only
  rw[hmid]
  have hh1:i≤(i+j)/2:=by omega
  have hh2:(i+j)/2<j:=by omega
  rcases hT1 with ⟨t1,t2,t3,t4⟩|⟨t1,t2,t3,t4⟩
  ·have b3:0≤s1.next:=by have:=B1.ae.wf.tick;omega
   have c1:=RR.nA (s:=s1) (r:=r1) (j:=(i+j)/2) b3 (by omega)
   obtain⟨f,hf⟩:∃f,N - m=f+1:=⟨N - m - 1,by omega⟩
   have hf2:N - (m+1)=f:=by omega
   rw[hf] at t1
   unfold RR.cw at t1
   rw[if_pos hlt] at t1
   refine BW C hlow hg hF0 hk0 B1 t4 (by rw[t2,t3,←hNN];omega) (by rw[t2];exact hw) (by rw[t2];exact hn) (by omega) (by omega) b3 fun F2 si2 rs2 A2 B2=>?_
   obtain⟨k1,k2,k3,k4,_,k6⟩:=RR.dz (s:=s1) (j:=(i+j)/2) t4
   have kb:=RR.oF (s:=s1) (r:=r1) (j:=(i+j)/2)
   generalize (r1.load s1 ((i+j)/2)).1=s2 at*
   generalize (r1.load s1 ((i+j)/2)).2.1=r2 at*
   generalize (r1.load s1 ((i+j)/2)).2.2=e2 at*
   by_cases e3:e2≠0
   ·rw[if_pos e3] at t1
    refine ar (by simp[e3]) ?_
    exact hnext (by omega) _ _ ⟨i,(i+j)/2,s2,r2,F2,si2,rs2,rfl,hh1,by omega,by omega,B2,⟨by omega,by omega⟩,.inr ⟨by rw[←t1],by rw[←t1],by rw[←t1];exact e3,by rw[←t1];exact kb e3⟩⟩
   ·rw[if_neg e3] at t1
    have e3':e2=0:=by omega
    obtain⟨k7,k8⟩:=k6 e3'
    by_cases e4:bt (jh r2.ins) ll<0
    ·rw[if_pos e4] at t1
     refine aU (by simp[e3',e4]) ?_
     refine hnext (by omega) _ _ ⟨(i+j)/2+1,j,s2,r2,F2,si2,rs2,?_,by omega,hjN,by omega,B2,⟨by omega,by omega⟩,.inl ⟨by rw[hf2];exact t1,by rw[k7,t2],by rw[k2,t3],k1⟩⟩
     rw[aK _ (by omega)]
    ·rw[if_neg e4] at t1
     refine ar (by simp[e3',e4]) ?_
     exact hnext (by omega) _ _ ⟨i,(i+j)/2,s2,r2,F2,si2,rs2,rfl,hh1,by omega,by omega,B2,⟨by omega,by omega⟩,.inl ⟨by rw[hf2];exact t1,by rw[k7,t2],by rw[k2,t3],k1⟩⟩
  ·-- a page could not be looked at: the question answers yes
   have step:∀K':Bool→Heap→Prop,K' true A1→xR.sp (((i+j)/2:Nat):Int) c c1 A1 K':=by
    intro K' hk
    refine xR.of ?_
    unfold xR.vc
    refine(C.at B1.mod).1.ld (c:=al) (x:=ay k) ?_
    unfold ay
    simp only[ak]
    refine ai.ld (c:=aa .i64) (i:=4) (x:=r1.b.wrong) B1.rd.row (ba.get 4 _ rfl) ?_
    exact aU (by rw[t4];simpa using t3) hk
   refine step _ (ar rfl ?_)
   exact hnext (by omega) _ _ ⟨i,(i+j)/2,s1,r1,F1,si1,rs1,rfl,hh1,by omega,by omega,B1,⟨by omega,by omega⟩,.inr ⟨t1,t2,t3,t4⟩⟩
 ·have hge : ¬ i < j := by have : ¬ (i : Int) < (j : Int) := by simpa using hc
                           omega
  rcases hT1 with ⟨t1,t2,t3,t4⟩|⟨t1,t2,t3,t4⟩
  ·have e:RR.cw ll (N - m) i j s1 r1=(s1,r1,i,0):=by
    cases hq:N - m with
    |zero=>rfl
    |succ f=>unfold RR.cw;rw[if_neg hge]
   rw[e] at t1
   have:=hK1 F1 si1 rs1 A1 (by rw[←t1]) (by rw[←t1];exact t2) (by rw[←t1];exact t3) (by rw[←t1];exact t4) (by rw[←t1];simp only;omega) (by rw[←t1];exact B1)
   rw[←t1] at this
   exact this
  ·exact hK0 F1 si1 rs1 A1 _ t3 (by rw[t2];exact t4) (by rw[t1,t2];exact B1)
end
def Down (ll:List Int) (ls:List (List Int)):Prop:=∀i j,i≤j→j<ls.length→bt (ls.getD j []) ll<0→bt (ls.getD i []) ll<0
theorem jv {ll:List Int}:∀{ls:List (List Int)} {n:Nat},n≤ls.length→(∀x,x<n→bt (ls.getD x []) ll<0)→(n<ls.length→¬bt (ls.getD n []) ll<0)→below ll ls=n
 |[],n,h,_,_=>by simp at h;subst h;rfl
 |a::ls,0,_,_,h3=>by
   have:=h3 (by simp)
   unfold below
   rw[List.takeWhile_cons,if_neg (by simpa using this)];rfl
 |a::ls,n+1,h1,h2,h3=>by
   have h0:bt a ll<0:=h2 0 (by omega)
   have ih:=jv (ll:=ll) (ls:=ls) (n:=n) (by simpa using h1) (fun x hx=>h2 (x+1) (by omega)) (fun hx=>h3 (by simpa using hx))
   unfold below at ih ⊢
   rw[List.takeWhile_cons,if_pos (by simpa using h0),List.length_cons,ih]
theorem rF {ls:List (List Int)} {i:Nat} (h:i<ls.length):ls.getD i []=ls[i]:=by rw[List.getD,List.getElem?_eq_getElem h];rfl
theorem CZ {si low:Sl} {ls:List (List Int)} {ll:List Int} {H:Heap} {K:(Int×Bool)→Heap→Prop} (h:Rows H si ls) (hl:Ints .u64 H low ll) (hd:Down ll ls) (hc:∀l∈ls,l.length≤16) (hn:ls.length≤1000000)
  (hK:∀b,K ((below ll ls:Int),b) H):DP.sp si low H K:=by
 refine DP.of ?_
 unfold DP.vc
 refine aw ls.length (fun m z A=>A=H∧∃i j:Nat,z=((i:Int),(j:Int))∧i≤j∧j≤ls.length∧j - i+m≤ls.length∧(∀x,x<i→bt (ls.getD x []) ll<0)∧∀x,j≤x→x<ls.length→¬bt (ls.getD x []) ll<0) ?_ ?_
 ·refine⟨rfl,0,ls.length,?_,Nat.zero_le _,Nat.le_refl _,by omega,fun x hx=>by omega,fun x h1 h2=>by omega⟩
  rw[h.len];rfl
 rintro m _ A next hm ⟨rfl,i,j,rfl,hij,hjN,hmn,hlo,hhi⟩ hnext
 refine ag (fun hcc=>?_) (fun hcc=>?_)
 ·have hlt : i < j := by have : (i : Int) < (j : Int) := by simpa using hcc
                         omega
  have hmid:=rI (i:=i) (j:=j) (by omega)
  simp only
  rw[hmid]
  have hh2:(i+j)/2<ls.length:=by omega
  refine h.ld hh2 fun ad x ha hx=>?_
  have hcol:=hc _ (List.getElem_mem hh2)
  refine kf hx hl (by omega) ?_
  rw[←rF hh2]
  refine ag (fun hc2=>?_) (fun hc2=>?_)
  ·have e:bt (ls.getD ((i+j)/2) []) ll<0:=by simpa using hc2
   refine hnext (by omega) _ _ ⟨rfl,(i+j)/2+1,j,?_,by omega,hjN,by omega,fun y hy=>hd y ((i+j)/2) (by omega) hh2 e,hhi⟩
   rw[aK _ (by omega)]
  ·have e:¬bt (ls.getD ((i+j)/2) []) ll<0:=by simpa using hc2
   exact hnext (by omega) _ _ ⟨rfl,i,(i+j)/2,rfl,by omega,by omega,by omega,hlo,fun y h1 h2 q=>e (hd ((i+j)/2) y h1 h2 q)⟩
 ·have hge : ¬ i < j := by have : ¬ (i : Int) < (j : Int) := by simpa using hcc
                           omega
  have eij:i=j:=by omega
  subst eij
  have eb:below ll ls=i:=jv hjN hlo fun hx=>hhi i (Nat.le_refl _) hx
  rw[eb] at hK
  refine ag (fun hc2=>?_) (fun hc2=>?_)
  ·have hil : i < ls.length := by have : (i : Int) < (si.n : Int) := by simpa using hc2
                                  rw[h.len] at this;omega
   refine h.ld hil fun ad x ha hx=>?_
   have hcol:=hc _ (List.getElem_mem hil)
   exact kf hx hl (by omega) (hK _)
  ·exact hK false
section
variable {H0:Heap} {F0 O0:Nat→Prop} {k p dp:Nat} {si:Sl} {rs:List Sl} {F:Nat→Prop} {A:Heap} {s:Pl} {r:RR} {low:Sl} {ll:List Int}
theorem qL {t:TypeId} {b:Rb} {rest:List Value} {n:Nat} {H:Heap} {K:Int→Heap→Prop} (h:ba H k t p b rest) (hr:0<b.room) (hn:n≤528482304) (hK:K (av n b.room:Int) H):Dw.sp (ay k) (n:Int) H K:=by
 refine Dw.of ?_
 unfold Dw.vc
 unfold ay
 simp only[ak]
 obtain⟨rm1,rm2⟩:=cA b
 refine ai.ld (c:=aa .i64) (i:=3) (x:=aS b.width) h (ba.get 3 _ rfl) ?_
 refine ai.ld (c:=aa .i64) (i:=3) (x:=aS b.width) h (ba.get 3 _ rfl) ?_
 rw[rm1]
 refine⟨by omega,?_⟩
 have e1:IntKind.i64.wrap ((n:Int)+(b.room:Int))=((n+b.room:Nat):Int):=by rw[wrap64 (by omega) (by omega)];omega
 have e2:IntKind.i64.wrap (((n+b.room:Nat):Int) - 1)=((n+b.room - 1:Nat):Int):=by rw[wrap64 (by omega) (by omega)];omega
 have e3:Int.tdiv ((n+b.room - 1:Nat):Int) (b.room:Int)=((av n b.room:Nat):Int):=rfl
 rw[e1,e2,e3]
 have:=cS (n:=n) hr
 rw[wrap64 (by omega) (by omega)]
 exact hK
set_option maxHeartbeats 1000000 in
theorem qJ {K:Int→Heap→Prop} (hg:Gl H0) (hF0:¬F0 bo) (hk0:bo≠k) (h:cO H0 F0 O0 k p dp si rs F A s r) (ok:r.Ok) (hl:Ints .u64 A low ll) (hlb:∀ad,low.a=some ad→ll≠[]→¬F ad.block∧ad.block≠k) (hlow:(ll.length:Int)≤r.b.width→ll.length≤1000000)
  (hn:r.b.name.size≤9223372036854775807) (hlogs:s.d.logs+528482304<68719460000) (hnx:s.next+528482304<1099511620000)
  (hfb:(r.find s ll).1.d.logs<68719470000∧(r.find s ll).1.next<1099511627776)
  (hdown:(r.find s ll).2.2.2=0→(r.find s ll).2.2.1≠av r.rows r.b.room→((r.find s ll).2.1.load (r.find s ll).1 (r.find s ll).2.2.1).2.2=0→Down ll ((r.find s ll).2.1.load (r.find s ll).1 (r.find s ll).2.2.1).2.1.ins)
  (hK:∀F' si' rs' A',cO H0 F0 O0 k p dp si' rs' F' A' (r.bL s ll).1 (r.bL s ll).2.1→K (r.bL s ll).2.2 A'):yN.sp (ay k) low A K:=by
 refine yN.of ?_
 unfold yN.vc
 refine dP fun c A1 hc1 z1 v1 e1=>?_
 refine dP fun c1 A2 hc2 z2 v2 e2=>?_
 have v1':=v1.ext e2
 have B2:=(h.ext e1).ext e2
 have hFlt:∀b,F b→b<A.size:=fun b hb=>h.ae.lt b hb
 have hkl:k<A.size:=az h.rd.row
 have hllt:∀ad,low.a=some ad→ll≠[]→ad.block<A.size:=fun ad ha hne=>by
  obtain⟨ad',ha',hc⟩:=hl.at (i:=0) (List.length_pos_iff.2 hne)
  rw[ha] at ha';cases ha'
  have:=eD hc
  rwa [cE] at this
 have C:pf A2 F k c c1 low ll:=by
  refine⟨v1',v2,(hl.ext e1).ext e2,fun b hb=>⟨?_,?_,fun ad ha hne q=>(hlb ad ha hne).1 (q▸hb)⟩,?_,?_,fun ad ha hne q=>(hlb ad ha hne).2 q.symm⟩
  ·have:=hFlt b hb;omega
  ·have:=hFlt b hb;omega
  ·omega
  ·omega
 have hgA2:=B2.gl hg hF0 hk0
 have hFg:¬F bo:=h.ae.fG
 have G0:=B2.start
 refine(C.at (.refl _ _)).1.ld (c:=al) (x:=ay k) ?_
 refine ar rfl ?_
 refine(C.at (.refl _ _)).1.ld (c:=al) (x:=ay k) ?_
 unfold ay
 simp only[ak]
 unfold RR.bL at hK
 refine j4 B2.rd.row ?_
 refine ag (fun hc=>?_) (fun hc=>?_)
 ·have e0:r.b.ready≠0:=by simpa using hc
  rw[if_pos e0] at hK
  exact hK F si rs A2 B2
 have e0:¬r.b.ready≠0:=by simpa using hc
 rw[if_neg e0] at hK
 have hw:r.b.wrong=0:=by
  unfold Rb.ready at e0
  by_cases q:r.b.wrong≠0
  ·rw[if_pos q] at e0;exact absurd q e0
  ·omega
 refine(C.at (.refl _ _)).2.1.ld (c:=aq) (x:=low) ?_
 refine(C.at (.refl _ _)).1.ld (c:=al) (x:=ay k) ?_
 unfold ay
 simp only[ak]
 refine ai.ld (c:=aa .i64) (i:=2) (x:=r.b.width) B2.rd.row (ba.get 2 _ rfl) ?_
 have hln:=hl.len
 refine ag (fun hc=>?_) (fun hc=>?_)
 ·have e1:(ll.length:Int)>r.b.width:=by rw[←hln];simpa using hc
  rw[if_pos e1] at hK
  exact hK F si rs A2 B2
 have e1':¬(ll.length:Int)>r.b.width:=by rw[←hln];simpa using hc
 rw[if_neg e1'] at hK
 have hlow:=hlow (by omega)
 refine(C.at (.refl _ _)).1.ld (c:=al) (x:=ay k) ?_
 unfold ay
 simp only[ak]
 refine(C.at (.refl _ _)).1.ld (c:=al) (x:=ay k) ?_
 unfold ay
 simp only[ak]
 refine ai.ld (c:=aa .i64) (i:=6) (x:=(r.rows:Int)) B2.rd.row (ba.tail (j:=0) rfl) ?_
 refine qL B2.rd.row ok.room ok.rows ?_
 have hrow:=ok.rows
 have hNle:=cS (n:=r.rows) ok.room
 refine uT C hlow hgA2 hFg hk0 G0 ok hw hn (by omega) (by omega) (fun F3 si3 rs3 A3 i h1 h2 B3=>?_) (fun F3 si3 rs3 A3 h1 h2 h3 h4 h5 B3=>?_)
 ·rw[if_pos h1] at hK
  refine(C.at B3.mod).1.ld (c:=al) (x:=ay k) ?_
  unfold ay
  simp only[ak]
  refine ai.ld (c:=aa .i64) (i:=4) (x:=(r.find s ll).2.1.b.wrong) B3.rd.row (ba.get 4 _ rfl) ?_
  refine aU (by rw[h2];simpa using h1) ?_
  refine(C.at B3.mod).1.ld (c:=al) (x:=ay k) ?_
  unfold ay
  simp only[ak]
  refine ai.ld (c:=aa .i64) (i:=4) (x:=(r.find s ll).2.1.b.wrong) B3.rd.row (ba.get 4 _ rfl) ?_
  rw[h2]
  exact hK F3 si3 rs3 A3 (B2.trans B3)
 ·rw[if_neg (by rw[h1];simp)] at hK
  unfold RR.goto at hK
  rw[h2,h3] at hK
  have hok:=@RR.dz (r.find s ll).1 (r.find s ll).2.1 (r.find s ll).2.2.1 h4
  have hd1:=hdown h1
  generalize (r.find s ll).1=s3 at*
  generalize (r.find s ll).2.1=r3 at*
  generalize (r.find s ll).2.2.1=kk at*
  refine(C.at B3.mod).1.ld (c:=al) (x:=ay k) ?_
  unfold ay
  simp only[ak]
  refine ai.ld (c:=aa .i64) (i:=4) (x:=r3.b.wrong) B3.rd.row (ba.get 4 _ rfl) ?_
  refine ar (by rw[h2,hw];rfl) ?_
  refine ag (fun hc=>?_) (fun hc=>?_)
  ·have e3:kk=av r.rows r.b.room:=by
       have:(kk:Int)=(av r.rows r.b.room:Int):=by simpa using hc
       omega
   rw[if_pos e3] at hK
   refine(C.at B3.mod).1.ld (c:=al) (x:=ay k) ?_
   refine(C.at B3.mod).1.ld (c:=al) (x:=ay k) ?_
   unfold ay
   simp only[ak]
   refine ai.ld (c:=aa .i64) (i:=6) (x:=(r3.rows:Int)) B3.rd.row (ba.tail (j:=0) rfl) ?_
   refine ai.st B3.rd.row (i:=7) (by simp[bw]) rfl fun A4 r4 m4 z4=>?_
   have r4':ba A4 k FA p r3.b [.int .i64 (r3.rows:Int),.int .i64 (r.rows:Int),.int .i64 (eU r3.page),si3.v]:=by
    have e:(bw p r3.b++[.int .i64 (r3.rows:Int),.int .i64 (r3.at_:Int),.int .i64 (eU r3.page),si3.v]).toArray.setIfInBounds 7 (.int .i64 (r3.rows:Int))=(bw p r3.b++[.int .i64 (r3.rows:Int),.int .i64 (r.rows:Int),.int .i64 (eU r3.page),si3.v]).toArray:=by
     rw[h3];simp[bw]
    rw[e] at r4;exact r4
   rw[h2,h3] at r4'
   exact hK F3 si3 rs3 A4 (B2.trans (B3.aZ m4 ⟨r4',B3.rd.ins.mod m4 (fun b hb q=>B3.rd.nN (q▸hb)) fun x hx b hb q=>B3.rd.ly x hx (q▸hb)⟩ fun b q=>.inl q))
  ·have e3:¬kk=av r.rows r.b.room:=fun q=>by rw[q] at hc;simp at hc
   rw[if_neg e3] at hK
   refine(C.at B3.mod).1.ld (c:=al) (x:=ay k) ?_
   have hkk:kk<av r.rows r.b.room:=by omega
   have hpl:=fY ok.room hkk
   refine pq hgA2 hFg hk0 B3 h4 (by rw[h2,h3];omega) (by omega) (by rw[h2];exact hn) hfb.1 hfb.2 (by have:=B3.ae.wf.tick;omega) fun F4 si4 rs4 A4 B4 hz4=>?_
   obtain⟨k1,k2,k3,k4,_,k6⟩:=hok
   generalize r3.load s3 kk=L at*
   obtain⟨s4,r4,e4⟩:=L
   simp only at hK k1 k2 k3 k4 k6 B4 hd1 ⊢
   refine ag (fun hc=>?_) (fun hc=>?_)
   ·have e5:e4≠0:=by simpa using hc
    rw[if_pos e5] at hK
    exact hK F4 si4 rs4 A4 (B2.trans B4)
   have e5:¬e4≠0:=by simpa using hc
   rw[if_neg e5] at hK
   obtain⟨k7,k8⟩:=k6 (by omega)
   have hlen:=k1.page _ k8
   rw[k7,h2,k2,h3] at hlen
   have hil:r4.ins.length≤504:=by have:=(cA r.b).2;rw[hlen];omega
   refine(C.at B4.mod).1.ld (c:=al) (x:=ay k) ?_
   unfold ay
   simp only[ak]
   refine ai.ld (c:=aq) (i:=9) (x:=si4) B4.rd.row (ba.tail (j:=3) rfl) ?_
   refine(C.at B4.mod).2.1.ld (c:=aq) (x:=low) ?_
   refine CZ B4.rd.ins.rows (C.at B4.mod).2.2 (hd1 e3 (by omega)) k1.cols (by omega) fun bb=>?_
   have hbl:below ll r4.ins≤r4.ins.length:=by unfold below;exact(List.takeWhile_sublist _).length_le
   refine(C.at B4.mod).1.ld (c:=al) (x:=ay k) ?_
   refine(C.at B4.mod).1.ld (c:=al) (x:=ay k) ?_
   unfold ay
   simp only[ak]
   refine ai.ld (c:=aa .i64) (i:=3) (x:=aS r4.b.width) B4.rd.row (ba.get 3 _ rfl) ?_
   refine ai.st B4.rd.row (i:=7) (by simp[bw]) rfl fun A5 r5 m5 z5=>?_
   obtain⟨rm1,rm2⟩:=cA r.b
   have w1:IntKind.i64.wrap ((kk:Int)*aS r4.b.width)=((kk*r.b.room:Nat):Int):=by
    rw[k7,h2,rm1]
    have:(kk:Int)*(r.b.room:Int)=((kk*r.b.room:Nat):Int):=by simp
    rw[this];exact wrap64 (by omega) (by omega)
   have w2:IntKind.i64.wrap (((kk*r.b.room:Nat):Int)+(below ll r4.ins:Int))=((kk*r.b.room+below ll r4.ins:Nat):Int):=by
    rw[wrap64 (by omega) (by omega)];omega
   rw[w1,w2] at r5
   have r5':ba A5 k FA p r4.b [.int .i64 (r4.rows:Int),.int .i64 ((kk*r.b.room+below ll r4.ins:Nat):Int),.int .i64 (eU r4.page),si4.v]:=by
    have e:(bw p r4.b++[.int .i64 (r4.rows:Int),.int .i64 (r4.at_:Int),.int .i64 (eU r4.page),si4.v]).toArray.setIfInBounds 7 (.int .i64 ((kk*r.b.room+below ll r4.ins:Nat):Int))=(bw p r4.b++[.int .i64 (r4.rows:Int),.int .i64 ((kk*r.b.room+below ll r4.ins:Nat):Int),.int .i64 (eU r4.page),si4.v]).toArray:=by
     simp[bw]
    rw[e] at r5;exact r5
   exact hK F4 si4 rs4 A5 (B2.trans (B4.aZ m5 ⟨r5',B4.rd.ins.mod m5 (fun b hb q=>B4.rd.nN (q▸hb)) fun x hx b hb q=>B4.rd.ly x hx (q▸hb)⟩ fun b q=>.inl q))
theorem zy {K:Int→Heap→Prop} (hg:Gl H0) (hF0:¬F0 bo) (hk0:bo≠k) (h:cO H0 F0 O0 k p dp si rs F A s r) (ok:r.Ok) (hl:Ints .u64 A low ll) (hlb:∀ad,low.a=some ad→ll≠[]→¬F ad.block∧ad.block≠k) (hlow:ll.length≤1000000)
  (hn:r.b.name.size≤9223372036854775807) (hlogs:s.d.logs+528482304<68719460000) (hnx:s.next+528482304<1099511620000)
  (hfb:(r.find s ll).1.d.logs<68719470000∧(r.find s ll).1.next<1099511627776)
  (hdown:(r.find s ll).2.2.2=0→(r.find s ll).2.2.1≠av r.rows r.b.room→((r.find s ll).2.1.load (r.find s ll).1 (r.find s ll).2.2.1).2.2=0→Down ll ((r.find s ll).2.1.load (r.find s ll).1 (r.find s ll).2.2.1).2.1.ins)
  (hK:∀F' si' rs' A',cO H0 F0 O0 k p dp si' rs' F' A' (r.bL s ll).1 (r.bL s ll).2.1→K (r.bL s ll).2.2 A'):yN.sp (ay k) low A K:=qJ hg hF0 hk0 h ok hl hlb (fun _=>hlow) hn hlogs hnx hfb hdown hK
end
theorem oR {b:List Int} (h:b.length=8):fS b 1=[[bH b]]:=by
 have hs:bg 1=8:=by decide
 have ho:da b 1=true:=by unfold da;rw[hs,h];rfl
 unfold fS
 rw[if_pos ho,hs,h]
 have:(8/(8:Int).toNat)=1:=by decide
 rw[this]
 unfold rowsOf
 rw[hs]
 have ht:List.take 8 b=b:=List.take_of_length_le (by omega)
 simp[List.range_succ,rowOf,bx,ht]
theorem q8 {s:Pl} {n:ByteArray} {W:Int} {r:RR} (h:(rnOpen s n W).2.1=some r):r.Ok∧r.b=⟨n,W,0,false⟩∧r.at_=0∧r.page=none∧r.ins=[]:=by
 unfold rnOpen at h
 split at h
 ·cases h
 ·rename_i hr
  split at h
  ·cases h
  ·split at h
   ·cases h
   ·split at h
    ·cases h
    ·split at h
     ·rename_i hw
      cases h
      have:=fU (di ((s.look n 0).2.2.1.drop 1))
      have h1:=hw.1
      refine⟨⟨?_,Nat.zero_le _,by simp,by simp only;omega,by simp⟩,rfl,rfl,rfl,rfl⟩
      have:=cA ⟨n,W,0,false⟩
      unfold Rb.room at this ⊢
      simp only at this ⊢
      omega
     ·cases h
variable {F:Nat→Prop} {H:Heap} {p dp:Nat} {s:Pl} {n:ByteArray} {W:Int} {K:(Option Addr×Int)→Heap→Prop}
set_option maxHeartbeats 1000000 in
theorem tD (hg:Gl H) (hp:aE F H p dp s) (hn:n.size≤9223372036854775807) (hlogs:s.d.logs<68719470000) (hnx:s.next<1099511627776) (h0:0≤s.next)
  (hK0:∀F' H',aE F' H' p dp (rnOpen s n W).1→Step F F' H H'→(rnOpen s n W).2.1=none→K (none,(rnOpen s n W).2.2) H')
  (hK1:∀F' H' k r,aE F' H' p dp (rnOpen s n W).1→Step F F' H H'→(rnOpen s n W).2.1=some r→w8 H' k p r gy []→H.size≤k→¬F' k→K (ay k,(rnOpen s n W).2.2) H'):BM.sp (ay p) n W H K:=by
 refine BM.of ?_
 unfold BM.vc
 refine qC (e:=if aS W=0 then 60 else 0) (if_neg (by unfold ay;simp)) fun H1 e1=>?_
 refine au fun H2 z2 r2 e2=>?_
 refine ai.ja (cs:=xr (ay p) n W) r2 j7 om (lC _ _ _) fun H3 r3 m3 z3=>?_
 have e3:Ext H H3:=⟨by have:=m3.size;have:=e1.size;omega,fun b hb _=>(m3.same b (by have:=e1.size;omega) (by intro q;have:b=H1.size:=q;have:=e1.size;omega)).trans ((e2.same b (by have:=e1.size;omega) id).trans (e1.same b hb id))⟩
 have p3:=hp.ext e3
 have g3:Gl H3:=hg.mod e3 id
 have S3:Step F F H H3:=⟨e3.mod,fun b q=>.inl q⟩
 have z13:=e1.size
 have hk:¬F H1.size:=fun q=>by have:=hp.lt _ q;omega
 by_cases hr:aS W=0
 ·simp only[if_pos hr]
  have em:rnOpen s n W=(s,none,60):=if_pos hr
  rw[em] at hK0
  exact aU rfl (hK0 F H3 p3 S3 rfl)
 simp only[if_neg hr]
 refine ar rfl ?_
 have b3:ba H3 H1.size oa p ⟨n,W,0,false⟩ []:=r3
 refine uE (g:=0) (b:=⟨n,W,0,false⟩) g3 b3 p3 hk (by decide) hn hlogs hnx h0 fun F4 H4 sl p4 S4 o4 f4 hl4=>?_
 have em:rnOpen s n W=if (s.look n 0).2.2.2≠0 then ((s.look n 0).1,none,(s.look n 0).2.2.2)
  else if ¬((s.look n 0).2.1=2∧(s.look n 0).2.2.1.length=9∧(((s.look n 0).2.2.1.getD 0 0).toNat:Int)=W) then ((s.look n 0).1,none,280)
  else if ((s.look n 0).1.d.len n).2≠0 then ((s.look n 0).1,none,((s.look n 0).1.d.len n).2)
  else if bH (di ((s.look n 0).2.2.1.drop 1))≤528482304∧((s.look n 0).1.d.len n).1=1+av (bH (di ((s.look n 0).2.2.1.drop 1))).toNat (aS W).toNat then
   ((s.look n 0).1,some ⟨⟨n,W,0,false⟩,(bH (di ((s.look n 0).2.2.1.drop 1))).toNat,0,none,[]⟩,0)
  else ((s.look n 0).1,none,280):=by unfold rnOpen;rw[if_neg hr]
 rw[em] at hK0 hK1
 simp only at p4 o4 f4 hl4 ⊢
 generalize (s.look n 0).1=s4 at*
 generalize (s.look n 0).2.1=kd at*
 generalize (s.look n 0).2.2.1=b at*
 generalize (s.look n 0).2.2.2=e at*
 have T4:=S3.trans S4
 have b4:ba H4 H1.size oa p ⟨n,W,0,false⟩ []:=b3.mod S4.mod hk
 have hb4:=bM o4
 have hbn:=hb4.n
 refine ag (fun hc=>?_) (fun hc=>?_)
 ·have e0:e≠0:=by simpa using hc
  rw[if_pos e0] at hK0
  exact hK0 F4 H4 p4 T4 rfl
 have e0:¬e≠0:=by simpa using hc
 rw[if_neg e0] at hK0 hK1
 refine ag (fun hc=>?_) (fun hc=>?_)
 ·have hnot:¬(kd=2∧b.length=9∧((b.getD 0 0).toNat:Int)=W):=by
   rintro⟨q1,q2,_⟩
   rw[hbn,q2,q1] at hc
   simp at hc
  rw[if_pos hnot] at hK0
  exact hK0 F4 H4 p4 T4 rfl
 have hk9:kd=2∧b.length=9:=by
  simp only[Bool.or_eq_false_iff,bne_eq_false_iff_eq] at hc
  refine⟨UInt8.toNat_inj.1 (by have:=hc.1;show kd.toNat=2;omega),by have:=hc.2;omega⟩
 obtain⟨hkd,hb9⟩:=hk9
 refine dy hb4 (i:=0) (by omega) rfl fun ad ha=>?_
 have hw8:IntKind.i64.wrap ((b[0]'(by omega)).toNat:Int)=((b.getD 0 0).toNat:Int):=by
  have:b.getD 0 0=b[0]'(by omega):=by rw[List.getD,List.getElem?_eq_getElem (by omega)];rfl
  have hlt:=(b[0]'(by omega)).toNat_lt
  rw[this,wrap64 (by omega) (by omega)]
 rw[hw8]
 refine ag (fun hc=>?_) (fun hc=>?_)
 ·have hnot:¬(kd=2∧b.length=9∧((b.getD 0 0).toNat:Int)=W):=by
   rintro⟨_,_,q3⟩
   rw[q3] at hc
   simp at hc
  rw[if_pos hnot] at hK0
  exact hK0 F4 H4 p4 T4 rfl
 have hyes:¬¬(kd=2∧b.length=9∧((b.getD 0 0).toNat:Int)=W):=fun q=>q ⟨hkd,hb9,by simpa only[bne_eq_false_iff_eq] using hc⟩
 rw[if_neg hyes] at hK0 hK1
 refine sQ p4 ?_
 obtain⟨D,d1,_,_⟩:=aE.bc (g3.mod S4.mod p3.fG) p4
 refine sE d1 ?_
 have hm:=Dk.jO d1.wf n
 generalize (s4.d.len n).1=N at*
 generalize (s4.d.len n).2=e5 at*
 refine ag (fun hc=>?_) (fun hc=>?_)
 ·have e6:e5≠0:=by simpa using hc
  rw[if_pos e6] at hK0
  exact hK0 F4 H4 p4 T4 rfl
 have e6:¬e5≠0:=by simpa using hc
 rw[if_neg e6] at hK0 hK1
 refine⟨by omega,?_⟩
 have hd:=hb4.drop o4.cap 1
 have hl8:(di (b.drop 1)).length=8:=by rw[iB,List.length_drop];omega
 refine qt (b:=di (b.drop 1)) hd (by have:=o4.cap;show sl.n - 1≤sl.c - 1;omega) (fun x hx=>?_) (by omega) fun sr rs H5 ro e5'=>?_
 ·unfold di at hx
  obtain⟨c,_,rfl⟩:=List.mem_map.1 hx
  have:=c.toNat_lt;omega
 rw[oR hl8] at ro
 have p5:=p4.ext e5'
 have T5:Step F F4 H H5:=T4.trans ⟨e5'.mod,fun b q=>.inl q⟩
 have b5:=b4.ext e5'
 refine ro.rows.ld (i:=0) (by simp) fun ad1 x1 ha1 hx1=>?_
 have hx1':Ints .u64 H5 x1 [bH (di (b.drop 1))]:=hx1
 refine gr hx1' (i:=0) (j:=0) rfl (by simp) fun ad2 ha2=>?_
 have hwr:=fU (di (b.drop 1))
 simp only[List.getD_cons_zero]
 obtain⟨w,hwd⟩:∃w,w=bH (di (b.drop 1)):=⟨_,rfl⟩
 rw[←hwd] at hK0 hK1 hwr ⊢
 have hrm:=cA ⟨n,W,0,false⟩
 refine ag (fun hc=>?_) (fun hc=>?_)
 ·have hw:w≤528482304:=by simpa using hc
  obtain⟨wn,rfl⟩:∃wn:Nat,w=(wn:Int):=⟨w.toNat,by omega⟩
  rw[show IntKind.i64.wrap (wn:Int)=(wn:Int) from wrap64 (by omega) (by omega)]
  have hroom:0<(Rb.room ⟨n,W,0,false⟩):=by
   have:=hrm.1;simp only at this;omega
  refine qL (b:=⟨n,W,0,false⟩) b5 hroom (by omega) ?_
  have hpl:=cS (n:=wn) hroom
  have hrt:Rb.room ⟨n,W,0,false⟩=(aS W).toNat:=rfl
  rw[hrt] at hpl ⊢
  have w2:IntKind.i64.wrap (1+(av wn (aS W).toNat:Int))=((1+av wn (aS W).toNat:Nat):Int):=by
   rw[wrap64 (by omega) (by omega)];omega
  rw[w2]
  rw[Int.toNat_natCast] at hK0 hK1
  refine ag (fun hc=>?_) (fun hc=>?_)
  ·have e7:N=1+av wn (aS W).toNat:=by
    have:(N:Int)=((1+av wn (aS W).toNat:Nat):Int):=by simpa using hc
    omega
   rw[if_pos ⟨hw,e7⟩] at hK1
   refine ai.dE (x:=(ay p,n,W,aS W,0,false)) b5 rfl rfl ?_
   refine au fun H6 z6 r6 e6=>?_
   have:=T5.mod.size
   refine hK1 F4 H6 H5.size ⟨⟨n,W,0,false⟩,wn,0,none,[]⟩ (p5.ext e6) ⟨T5.mod.trans' e6 fun b _ q=>q.elim,T5.own⟩ rfl ⟨r6,aT.nil _ _⟩ (by omega) fun q=>by have:=p5.lt _ q;omega
  ·have e7:¬(((wn:Nat):Int)≤528482304∧N=1+av wn (aS W).toNat):=fun q=>by
    rw[q.2] at hc;simp at hc
   rw[if_neg e7] at hK0
   exact hK0 F4 H5 p5 T5 rfl
 ·have hw:¬w≤528482304:=by simpa using hc
  rw[if_neg (fun q=>hw q.1)] at hK0
  exact hK0 F4 H5 p5 T5 rfl
end Go.Proofs.YtdpdmbceakdlmaaGreatDoor
namespace Go.Proofs.YtdpdmbceakdlmaaGreatDoor
open Go.MapKept
def dF:Option Nat→Int
 |none=>0
 |some k=>(k:Int)+1
structure wO (H:Heap) (k p:Nat) (r:RR) (si:Sl) (rs:List Sl):Prop where
 row:bl H k Dz p r.b [.int .i64 (r.rows:Int),.int .i64 (r.at_:Int),.int .i64 (dF r.page),si.v]
 ins:aT H 0 si rs r.ins
section
variable {H:Heap} {k p:Nat} {r:RR} {si:Sl} {rs:List Sl}
theorem wO.lt (h:wO H k p r si rs):∀b,gV k si rs b→b<H.size:=by
 rintro b (rfl|q|⟨x,hx,q⟩)
 ·exact az h.row
 ·exact(h.ins.block.1 b q).2
 ·exact(h.ins.block.2 x hx b q).2
theorem wO.mod {G:Nat→Prop} {H':Heap} (h:wO H k p r si rs) (m:Mod G H H') (hn:∀b,gV k si rs b→¬G b):wO H' k p r si rs:=
 ⟨h.row.mod m (hn k (.inl rfl)),h.ins.mod m (fun b hb=>hn b (.inr (.inl hb))) fun x hx b hb=>hn b (.inr (.inr ⟨x,hx,hb⟩))⟩
theorem wO.nN (h:wO H k p r si rs):¬aj si k:=fun q=>by
 obtain⟨cur,hc⟩:=h.ins.out.obj k q
 exact absurd (aL hc h.row) (by decide)
theorem wO.ly (h:wO H k p r si rs):∀x∈rs,¬aj x k:=fun x hx q=>by
 obtain⟨l,hl⟩:=h.ins.rowAt hx
 obtain⟨cur,hc⟩:=hl.obj k q
 exact absurd (aL hc h.row) (by decide)
end
structure dr (H0:Heap) (F0 O0:Nat→Prop) (k p dp:Nat) (si:Sl) (rs:List Sl) (F:Nat→Prop) (A:Heap) (s:Pl) (r:RR):Prop where
 ae:aI F A p dp s
 rd:wO A k p r si rs
 dis:∀b,F b→¬gV k si rs b
 mod:Mod (fun b=>F0 b∨b=k) H0 A
 own:∀b,F b→F0 b∨H0.size≤b
 own2:∀b,gV k si rs b→O0 b∨H0.size≤b
section
variable {H0:Heap} {F0 O0:Nat→Prop} {k p dp:Nat} {si:Sl} {rs:List Sl} {F:Nat→Prop} {A:Heap} {s:Pl} {r:RR}
theorem dr.step {F':Nat→Prop} {A':Heap} {s':Pl} (h:dr H0 F0 O0 k p dp si rs F A s r) (hp:aI F' A' p dp s') (S:Step F F' A A'):dr H0 F0 O0 k p dp si rs F' A' s' r:=by
 refine⟨hp,h.rd.mod S.mod fun b hb q=>h.dis b q hb,fun b hb q=>?_,h.mod.trans' S.mod fun b hb q=>?_,fun b hb=>?_,h.own2⟩
 ·rcases S.own b hb with r|r
  ·exact h.dis b r q
  ·have:=h.rd.lt b q;omega
 ·rcases h.own b q with r|r
  ·exact .inl r
  ·omega
 ·rcases S.own b hb with r|r
  ·exact h.own b r
  ·right;have:=h.mod.size;omega
theorem dr.ext {A':Heap} (h:dr H0 F0 O0 k p dp si rs F A s r) (e:Ext A A'):dr H0 F0 O0 k p dp si rs F A' s r:=h.step (h.ae.ext e) ⟨Ext.mod e,fun _ q=>.inl q⟩
theorem dr.aZ {A':Heap} {r':RR} {si':Sl} {rs':List Sl} (h:dr H0 F0 O0 k p dp si rs F A s r) (m:Mod (fun b=>b=k) A A') (hr:wO A' k p r' si' rs') (hs:∀b,gV k si' rs' b→gV k si rs b∨(H0.size≤b∧¬F b)):dr H0 F0 O0 k p dp si' rs' F A' s r':=by
 refine⟨h.ae.keep fun b hb hl=>m.same b hl fun q=>h.dis b hb (.inl q),hr,fun b hb q=>?_,h.mod.trans' m fun b _ q=>.inr q,h.own,fun b q=>?_⟩
 ·rcases hs b q with u|u
  ·exact h.dis b hb u
  ·exact u.2 hb
 ·rcases hs b q with u|u
  ·exact h.own2 b u
  ·exact .inr u.1
theorem dr.bV {e:Int} {K:Int→Heap→Prop} (h:dr H0 F0 O0 k p dp si rs F A s r) (hw:r.b.wrong=0) (hK:∀A',dr H0 F0 O0 k p dp si rs F A' s {r with b:=r.b.bV e}→A.size≤A'.size→K e A'):xB.sp (ay k) e A K:=by
 refine mT h.rd.row hw fun A' r' m' z'=>hK A' (h.aZ m' ⟨r',h.rd.ins.mod m' (fun b hb q=>h.rd.nN (q▸hb)) fun x hx b hb q=>h.rd.ly x hx (q▸hb)⟩ fun b q=>.inl q) (Nat.le_of_eq z'.symm)
set_option maxHeartbeats 1000000 in
theorem pt {j:Nat} {K:Int→Heap→Prop} (h:dr H0 F0 O0 k p dp si rs F A s r) (ok:r.Ok) (hw0:r.b.wrong=0) (hj:j*r.b.room≤r.rows) (hj2:j<1099511627776)
  (hn:r.b.name.size≤9223372036854775807) (hlogs:s.d.logs<68719470000) (hnx:s.next<1099511620000) (h0:0≤s.next)
  (hK:∀F' si' rs' A',dr H0 F0 O0 k p dp si' rs' F' A' (r.load s j).1 (r.load s j).2.1→A.size≤A'.size→K (r.load s j).2.2 A'):BP.sp (ay k) (j:Int) A K:=by
 refine BP.of ?_
 unfold BP.vc
 simp only[ak,ay]
 obtain⟨rm1,rm2⟩:=cA r.b
 unfold RR.load at hK
 refine ai.ld (c:=aa .i64) (i:=7) (x:=dF r.page) h.rd.row (bl.tail (j:=2) rfl) ?_
 rw[aK j (by omega)]
 have e1:((j+1:Nat):Int)=(j:Int)+1:=by omega
 by_cases hp:r.page=some j
 ·rw[if_pos hp] at hK
  refine aU (by rw[hp];simp[dF]) ?_
  exact hK F si rs A h (Nat.le_refl _)
 rw[if_neg hp] at hK
 refine ar ?_ ?_
 ·cases e:r.page with
  |none=>simp only[dF,beq_eq_false_iff_ne,ne_eq];omega
  |some i=>
    have:i≠j:=fun q=>hp (by rw[e,q])
    simp only[dF,beq_eq_false_iff_ne,ne_eq];omega
 refine ai.ld (c:=aa .i64) (i:=2) (x:=r.b.width) h.rd.row (bl.get 2 _ rfl) ?_
 refine eW ?_
 refine tk h.rd.row h.ae (fun q=>h.dis k q (.inl rfl)) hn hlogs hnx h0 fun F1 A1 sl p1 S1 o1 f1 hb1 _=>?_
 rw[e1] at p1 o1 hb1 ⊢
 have B1:=h.step p1 S1
 generalize (s.look r.b.name ((j:Int)+1)).1=s1 at*
 generalize (s.look r.b.name ((j:Int)+1)).2.1=kd at*
 generalize (s.look r.b.name ((j:Int)+1)).2.2.1=b at*
 generalize (s.look r.b.name ((j:Int)+1)).2.2.2=e at*
 refine ag (fun hc=>?_) (fun hc=>?_)
 ·have e0:e≠0:=by simpa using hc
  rw[if_pos e0] at hK
  exact B1.bV hw0 fun A2 B2 z2=>hK F1 si rs A2 B2 (Nat.le_trans S1.mod.size z2)
 have e0:¬e≠0:=by simpa using hc
 rw[if_neg e0] at hK
 refine ai.ld (c:=aa .i64) (i:=2) (x:=r.b.width) B1.rd.row (bl.get 2 _ rfl) ?_
 refine qU (b:=di b) o1 (by rw[iB];omega) fun sr rs2 A2 ro e2=>?_
 have B2:=B1.ext e2
 have hfit:r.fits j kd b=true↔(kd=1∧kq (di b) r.b.width=0∧(fS (di b) r.b.width).length=min r.b.room (r.rows - j*r.b.room)):=by
  unfold RR.fits kq
  simp only[Bool.and_eq_true,beq_iff_eq,decide_eq_true_eq]
  cases da (di b) r.b.width<;>simp
 refine ag (fun hc=>?_) (fun hc=>?_)
 ·have hnf:¬r.fits j kd b=true:=fun q=>by
   obtain⟨q1,q2,_⟩:=hfit.1 q
   rw[q2,q1] at hc
   simp at hc
  rw[if_neg hnf] at hK
  exact B2.bV hw0 fun A3 B3 z3=>hK F1 si rs A3 B3 (by have:=S1.mod.size;have:=e2.size;omega)
 have hkd:kd=1∧kq (di b) r.b.width=0:=by
  simp only[Bool.or_eq_false_iff,bne_eq_false_iff_eq] at hc
  refine⟨?_,hc.2⟩
  have:kd.toNat=1:=by omega
  exact UInt8.toNat_inj.1 this
 refine ai.ld (c:=aa .i64) (i:=5) (x:=(r.rows:Int)) B2.rd.row (bl.tail (j:=0) rfl) ?_
 have hjr:(j:Int)*(r.b.room:Int)=((j*r.b.room:Nat):Int):=by simp
 have hw1:IntKind.i64.wrap ((j:Int)*aS r.b.width)=((j*r.b.room:Nat):Int):=by
  rw[rm1,hjr];have:=ok.rows;exact wrap64 (by omega) (by omega)
 have hw2:IntKind.i64.wrap ((r.rows:Int) - ((j*r.b.room:Nat):Int))=((r.rows - j*r.b.room:Nat):Int):=by
  have:=ok.rows;rw[wrap64 (by omega) (by omega)];omega
 rw[hw1,hw2,rm1,ro.n]
 have hmin:(if ((r.rows - j*r.b.room:Nat):Int)<(r.b.room:Int) then ((r.rows - j*r.b.room:Nat):Int) else (r.b.room:Int))=((min r.b.room (r.rows - j*r.b.room):Nat):Int):=by
  split<;>omega
 rw[hmin]
 refine ag (fun hc=>?_) (fun hc=>?_)
 ·have hnf:¬r.fits j kd b=true:=fun q=>by
   obtain⟨_,_,q3⟩:=hfit.1 q
   rw[q3] at hc
   simp at hc
  rw[if_neg hnf] at hK
  exact B2.bV hw0 fun A3 B3 z3=>hK F1 si rs A3 B3 (by have:=S1.mod.size;have:=e2.size;omega)
 have hln:((fS (di b) r.b.width).length:Int)=((min r.b.room (r.rows - j*r.b.room):Nat):Int):=by simpa only[bne_eq_false_iff_eq] using hc
 have hf:r.fits j kd b=true:=hfit.2 ⟨hkd.1,hkd.2,Int.ofNat.inj hln⟩
 rw[if_pos hf] at hK
 refine ai.st B2.rd.row (i:=7) (by simp[bQ]) rfl fun A3 r3 m3 z3=>?_
 refine ai.st r3 (i:=8) (by simp[bQ]) rfl fun A4 r4 m4 z4=>?_
 have m24:=m3.trans m4
 have r4':bl A4 k Dz p r.b [.int .i64 (r.rows:Int),.int .i64 (r.at_:Int),.int .i64 (dF (some j)),sr.v]:=by
  have e:((bQ p r.b++[.int .i64 (r.rows:Int),.int .i64 (r.at_:Int),.int .i64 (dF r.page),si.v]).toArray.setIfInBounds 7 (.int .i64 ((j:Int)+1))).setIfInBounds 8 sr.v=(bQ p r.b++[.int .i64 (r.rows:Int),.int .i64 (r.at_:Int),.int .i64 (dF (some j)),sr.v]).toArray:=by
   simp[bQ,dF]
  rw[e] at r4;exact r4
 have hbl:=ro.block
 have hk1:k<A1.size:=az B1.rd.row
 have hz1:=B1.mod.size
 have ro0:aT A2 0 sr rs2 (fS (di b) r.b.width):=⟨ro.out.tC,ro.len,fun i x l h1 h2=>(ro.row i x l h1 h2).tC,ro.apart⟩
 have rn:wO A4 k p {r with page:=some j,ins:=fS (di b) r.b.width} sr rs2:=
  ⟨r4',ro0.mod m24 (fun b hb q=>by have:=(hbl.1 b hb).1;omega) fun x hx b hb q=>by have:=(hbl.2 x hx b hb).1;omega⟩
 refine hK F1 sr rs2 A4 (B2.aZ m24 rn fun b hb=>?_) (by have:=S1.mod.size;have:=e2.size;have:=m24.size;omega)
 rcases hb with q|q|⟨x,hx,q⟩
 ·exact .inl (.inl q)
 ·have:=(hbl.1 b q).1
  exact .inr ⟨by omega,fun u=>by have:=p1.lt b u;omega⟩
 ·have:=(hbl.2 x hx b q).1
  exact .inr ⟨by omega,fun u=>by have:=p1.lt b u;omega⟩
theorem Ak {K:(Sl×Bool×Int)→Heap→Prop} (h:dr H0 F0 O0 k p dp si rs F A s r) (ok:r.Ok)
  (hn:r.b.name.size≤9223372036854775807) (hlogs:s.d.logs<68719470000) (hnx:s.next<1099511620000) (h0:0≤s.next)
  (hK:∀F' si' rs' A' l,dr H0 F0 O0 k p dp si' rs' F' A' (r.next s).1 (r.next s).2.1→Ints .u64 A' l (r.next s).2.2.1→(∀b,aj l b→gV k si' rs' b∧b≠k)→A.size≤A'.size→K (l,(r.next s).2.2.2.1,(r.next s).2.2.2.2) A'):Cn.sp (ay k) A K:=by
 refine Cn.of ?_
 unfold Cn.vc
 simp only[ak,ay]
 obtain⟨rm1,rm2⟩:=cA r.b
 unfold RR.next at hK
 refine j6 h.rd.row ?_
 refine ag (fun hc=>?_) (fun hc=>?_)
 ·have e0:r.b.ready≠0:=by simpa using hc
  rw[if_pos e0] at hK
  exact hK F si rs A _ h ⟨rfl,Reads.nil _ _⟩ (fun b q=>absurd q (cF b)) (Nat.le_refl _)
 have e0:¬r.b.ready≠0:=by simpa using hc
 obtain⟨hw0,_⟩:=Rb.rz e0
 rw[if_neg e0] at hK
 refine ai.ld (c:=aa .i64) (i:=6) (x:=(r.at_:Int)) h.rd.row (bl.tail (j:=1) rfl) ?_
 refine ai.ld (c:=aa .i64) (i:=5) (x:=(r.rows:Int)) h.rd.row (bl.tail (j:=0) rfl) ?_
 have hat0:=ok.at_
 refine ag (fun hc=>?_) (fun hc=>?_)
 ·have e1 : r.at_ = r.rows := by have : (r.at_ : Int) ≥ (r.rows : Int) := by simpa using hc
                                 omega
  rw[if_pos e1] at hK
  exact hK F si rs A _ h ⟨rfl,Reads.nil _ _⟩ (fun b q=>absurd q (cF b)) (Nat.le_refl _)
 have hat : r.at_ < r.rows := by have : ¬ (r.at_ : Int) ≥ (r.rows : Int) := by simpa using hc
                                 omega
 rw[if_neg (by omega)] at hK
 refine ai.ld (c:=aa .i64) (i:=2) (x:=r.b.width) h.rd.row (bl.get 2 _ rfl) ?_
 refine eW ?_
 refine ai.ld (c:=aa .i64) (i:=6) (x:=(r.at_:Int)) h.rd.row (bl.tail (j:=1) rfl) ?_
 have hrm:=ok.room
 have hrw:=ok.rows
 rw[rm1]
 refine⟨by omega,?_⟩
 have hdiv:IntKind.i64.wrap (Int.tdiv (r.at_:Int) (r.b.room:Int))=((r.at_/r.b.room:Nat):Int):=by
  have h1:Int.tdiv (r.at_:Int) (r.b.room:Int)=((r.at_/r.b.room:Nat):Int):=rfl
  have h2:=Nat.div_le_self r.at_ r.b.room
  rw[h1];generalize r.at_/r.b.room=q at h2 ⊢;exact wrap64 (by omega) (by omega)
 rw[hdiv]
 have hq1:=Nat.div_mul_le_self r.at_ r.b.room
 have hq2:=Nat.div_le_self r.at_ r.b.room
 refine pt h ok hw0 (by omega) (by omega) hn hlogs hnx h0 fun F1 si1 rs1 A1 B1 hz=>?_
 obtain⟨k1,k2,k3,k4,_,k6⟩:=RR.dz (s:=s) (j:=r.at_/r.b.room) ok
 generalize (r.load s (r.at_/r.b.room)).1=s1 at*
 generalize (r.load s (r.at_/r.b.room)).2.1=r1 at*
 generalize (r.load s (r.at_/r.b.room)).2.2=e2 at*
 refine ag (fun hc=>?_) (fun hc=>?_)
 ·have e3:e2≠0:=by simpa using hc
  rw[if_pos e3] at hK
  exact hK F1 si1 rs1 A1 _ B1 ⟨rfl,Reads.nil _ _⟩ (fun b q=>absurd q (cF b)) hz
 have e3:¬e2≠0:=by simpa using hc
 rw[if_neg e3] at hK
 obtain⟨k7,k8⟩:=k6 (by omega)
 have hlen:=k1.page _ k8
 rw[k7,k2] at hlen
 have hm:=Nat.mod_lt r.at_ hrm
 have hdm:=Nat.div_add_mod r.at_ r.b.room
 have hmc:r.b.room*(r.at_/r.b.room)=r.at_/r.b.room*r.b.room:=Nat.mul_comm _ _
 have hin:r.at_%r.b.room<r1.ins.length:=by rw[hlen];omega
 refine ai.ld (c:=aq) (i:=8) (x:=si1) B1.rd.row (bl.tail (j:=3) rfl) ?_
 refine ai.ld (c:=aa .i64) (i:=6) (x:=(r1.at_:Int)) B1.rd.row (bl.tail (j:=1) rfl) ?_
 rw[k3]
 refine⟨by omega,?_⟩
 have hmod:Int.tmod (r.at_:Int) (r.b.room:Int)=((r.at_%r.b.room:Nat):Int):=rfl
 rw[hmod]
 have hir:r.at_%r.b.room<rs1.length:=by rw[B1.rd.ins.len];exact hin
 have rld:∀{K:Addr→Sl→Prop},(∀a,K a rs1[r.at_%r.b.room])→ab si1.a fun a=>(0≤((r.at_%r.b.room:Nat):Int)∧((r.at_%r.b.room:Nat):Int)<(si1.n:Int))∧Go.Proofs.YtdpdmbceakdlmaaGreatDoor.ld aq A1 (a.add (((r.at_%r.b.room:Nat):Int).toNat*1)) fun x=>K a x:=fun {K} hk=>by
  obtain⟨ad,ha,hc⟩:=B1.rd.ins.out.reads.at (i:=r.at_%r.b.room) (by simpa using hir)
  refine c6 ad ha ⟨⟨by omega,by rw[B1.rd.ins.n];omega⟩,rs1[r.at_%r.b.room],?_,hk ad⟩
  rw[Int.toNat_natCast,Nat.mul_one,hc,List.getElem_map]
 refine rld fun _=>?_
 have ol:=B1.rd.ins.row _ _ _ (List.getElem?_eq_getElem hir) (List.getElem?_eq_getElem hin)
 refine ai.ld (c:=aa .i64) (i:=6) (x:=(r1.at_:Int)) B1.rd.row (bl.tail (j:=1) rfl) ?_
 refine ai.st B1.rd.row (i:=6) (by simp[bQ]) rfl fun A3 r3 m3 z3=>?_
 rw[k3,aK r.at_ (by omega)] at r3
 have r3':bl A3 k Dz p r1.b [.int .i64 (r1.rows:Int),.int .i64 ((r.at_+1:Nat):Int),.int .i64 (dF r1.page),si1.v]:=by
  have e:(bQ p r1.b++[.int .i64 (r1.rows:Int),.int .i64 (r.at_:Int),.int .i64 (dF r1.page),si1.v]).toArray.setIfInBounds 6 (.int .i64 ((r.at_+1:Nat):Int))=(bQ p r1.b++[.int .i64 (r1.rows:Int),.int .i64 ((r.at_+1:Nat):Int),.int .i64 (dF r1.page),si1.v]).toArray:=by
   simp[bQ]
  rw[e] at r3;exact r3
 have B3:dr H0 F0 O0 k p dp si1 rs1 F1 A3 s1 {r1 with at_:=r.at_+1}:=B1.aZ m3 ⟨r3',B1.rd.ins.mod m3 (fun b hb q=>B1.rd.nN (q▸hb)) fun x hx b hb q=>B1.rd.ly x hx (q▸hb)⟩ fun b q=>.inl q
 have hmem:rs1[r.at_%r.b.room]∈rs1:=List.getElem_mem hir
 refine hK F1 si1 rs1 A3 _ B3 ?_ (fun b hb=>⟨.inr (.inr ⟨_,hmem,hb⟩),fun q=>B1.rd.ly _ hmem (q▸hb)⟩) (by omega)
 have eg:r1.ins.getD (r.at_%r.b.room) []=r1.ins[r.at_%r.b.room]:=by rw[List.getD,List.getElem?_eq_getElem hin];rfl
 rw[eg]
 exact(aN.ints ol).mod m3 fun ad ha q=>B1.rd.ly _ hmem (q▸⟨ad,ha,rfl⟩)
end
theorem mG {n room:Nat} {H:Heap} {K:Int→Heap→Prop} (hr:0<room∧room≤504) (hn:n≤528482304) (hK:K (av n room:Int) H):BD.sp (n:Int) (room:Int) H K:=by
 refine BD.of ?_
 unfold BD.vc
 refine⟨by omega,?_⟩
 have e1:IntKind.i64.wrap ((n:Int)+(room:Int))=((n+room:Nat):Int):=by rw[wrap64 (by omega) (by omega)];omega
 have e2:IntKind.i64.wrap (((n+room:Nat):Int) - 1)=((n+room - 1:Nat):Int):=by rw[wrap64 (by omega) (by omega)];omega
 have e3:Int.tdiv ((n+room - 1:Nat):Int) (room:Int)=((av n room:Nat):Int):=rfl
 rw[e1,e2,e3]
 have:=cS (n:=n) hr.1
 rw[wrap64 (by omega) (by omega)]
 exact hK
section
variable {F:Nat→Prop} {H:Heap} {p dp:Nat} {s:Pl} {n:ByteArray} {W:Int} {K:(Option Addr×Int)→Heap→Prop}
set_option maxHeartbeats 1000000 in
theorem uB (hp:aI F H p dp s) (hn:n.size≤9223372036854775807) (hlogs:s.d.logs<68719460000) (hnx:s.next<1099511620000) (h0:0≤s.next) (hlog2:(s.look n 0).1.d.logs<68719476736)
  (hK0:∀F' H',aI F' H' p dp (rnOpen s n W).1→Step F F' H H'→(rnOpen s n W).2.1=none→K (none,(rnOpen s n W).2.2) H')
  (hK1:∀F' H' k r,aI F' H' p dp (rnOpen s n W).1→Step F F' H H'→(rnOpen s n W).2.1=some r→wO H' k p r gy []→H.size≤k→¬F' k→K (ay k,(rnOpen s n W).2.2) H'):Ey.sp (ay p) n W H K:=by
 refine Ey.of ?_
 unfold Ey.vc
 simp only[ak,ay]
 refine ar rfl ?_
 refine eW ?_
 by_cases hr:aS W=0
 ·have em:rnOpen s n W=(s,none,60):=if_pos hr
  rw[em] at hK0
  exact aU (by simpa using hr) (hK0 F H hp (.refl _ _) rfl)
 refine ar (by simpa using hr) ?_
 refine au fun H3 z3 r3 e3=>?_
 have p3:=hp.ext e3
 have S3:Step F F H H3:=⟨Ext.mod e3,fun b q=>.inl q⟩
 have hk:¬F H.size:=fun q=>by have:=hp.lt _ q;omega
 have b3:bl H3 H.size Dz p ⟨n,W,0,false⟩ [.int .i64 ((0:Nat):Int),.int .i64 ((0:Nat):Int),.int .i64 (dF none),gy.v]:=r3
 refine tk (g:=0) (b:=⟨n,W,0,false⟩) b3 p3 hk hn (by omega) hnx h0 fun F4 H4 sl p4 S4 hb4 f4 hl4 c4=>?_
 have em:rnOpen s n W=if (s.look n 0).2.2.2≠0 then ((s.look n 0).1,none,(s.look n 0).2.2.2)
  else if ¬((s.look n 0).2.1=2∧(s.look n 0).2.2.1.length=9∧(((s.look n 0).2.2.1.getD 0 0).toNat:Int)=W) then ((s.look n 0).1,none,280)
  else if ((s.look n 0).1.d.len n).2≠0 then ((s.look n 0).1,none,((s.look n 0).1.d.len n).2)
  else if bH (di ((s.look n 0).2.2.1.drop 1))≤528482304∧((s.look n 0).1.d.len n).1=1+av (bH (di ((s.look n 0).2.2.1.drop 1))).toNat (aS W).toNat then
   ((s.look n 0).1,some ⟨⟨n,W,0,false⟩,(bH (di ((s.look n 0).2.2.1.drop 1))).toNat,0,none,[]⟩,0)
  else ((s.look n 0).1,none,280):=by unfold rnOpen;rw[if_neg hr]
 rw[em] at hK0 hK1
 simp only at p4 hb4 hl4 ⊢
 generalize (s.look n 0).1=s4 at*
 generalize (s.look n 0).2.1=kd at*
 generalize (s.look n 0).2.2.1=b at*
 generalize (s.look n 0).2.2.2=e at*
 have T4:=S3.trans S4
 have b4:=b3.mod S4.mod hk
 have hbn:=hb4.n
 refine ag (fun hc=>?_) (fun hc=>?_)
 ·have e0:e≠0:=by simpa using hc
  rw[if_pos e0] at hK0
  exact hK0 F4 H4 p4 T4 rfl
 have e0:¬e≠0:=by simpa using hc
 rw[if_neg e0] at hK0 hK1
 refine ag (fun hc=>?_) (fun hc=>?_)
 ·have hnot:¬(kd=2∧b.length=9∧((b.getD 0 0).toNat:Int)=W):=by
   rintro⟨q1,q2,_⟩
   rw[hbn,q2,q1] at hc
   simp at hc
  rw[if_pos hnot] at hK0
  exact hK0 F4 H4 p4 T4 rfl
 have hk9:kd=2∧b.length=9:=by
  simp only[Bool.or_eq_false_iff,bne_eq_false_iff_eq] at hc
  refine⟨UInt8.toNat_inj.1 (by have:=hc.1;show kd.toNat=2;omega),by have:=hc.2;omega⟩
 obtain⟨hkd,hb9⟩:=hk9
 refine dy hb4 (i:=0) (by omega) rfl fun ad ha=>?_
 have hw8:IntKind.i64.wrap ((b[0]'(by omega)).toNat:Int)=((b.getD 0 0).toNat:Int):=by
  have:b.getD 0 0=b[0]'(by omega):=by rw[List.getD,List.getElem?_eq_getElem (by omega)];rfl
  have hlt:=(b[0]'(by omega)).toNat_lt
  rw[this,wrap64 (by omega) (by omega)]
 rw[hw8]
 refine ag (fun hc=>?_) (fun hc=>?_)
 ·have hnot:¬(kd=2∧b.length=9∧((b.getD 0 0).toNat:Int)=W):=by
   rintro⟨_,_,q3⟩
   rw[q3] at hc
   simp at hc
  rw[if_pos hnot] at hK0
  exact hK0 F4 H4 p4 T4 rfl
 have hyes:¬¬(kd=2∧b.length=9∧((b.getD 0 0).toNat:Int)=W):=fun q=>q ⟨hkd,hb9,by simpa only[bne_eq_false_iff_eq] using hc⟩
 rw[if_neg hyes] at hK0 hK1
 refine⟨by omega,?_⟩
 have hd:=hb4.drop c4 1
 have hl8:(di (b.drop 1)).length=8:=by rw[iB,List.length_drop];omega
 refine qU (b:=di (b.drop 1)) hd (by omega) fun sr rs H5 ro e5'=>?_
 rw[oR hl8] at ro
 have p5:=p4.ext e5'
 have T5:Step F F4 H H5:=T4.trans ⟨Ext.mod e5',fun b q=>.inl q⟩
 have b5:=b4.ext e5'
 obtain⟨ll,hhd,_,hFp⟩:=p5.head
 refine ai.ld (c:=al) (i:=0) (x:=ay dp) hhd rfl ?_
 obtain⟨D,d1,_,_⟩:=p5.bc
 refine lJ d1 hlog2 fun H6 e6=>?_
 have p6:=p5.ext e6
 have T6:Step F F4 H H6:=T5.trans ⟨Ext.mod e6,fun b q=>.inl q⟩
 have b6:=b5.ext e6
 have ro6:Rows H6 sr [[bH (di (b.drop 1))]]:=(ro.mod e6 (fun _ _ u=>u) fun _ _ _ _ u=>u).rows
 have hm:=Dk.jO d1.wf n
 generalize (s4.d.len n).1=N at*
 generalize (s4.d.len n).2=e5 at*
 refine ag (fun hc=>?_) (fun hc=>?_)
 ·have e6:e5≠0:=by simpa using hc
  rw[if_pos e6] at hK0
  exact hK0 F4 H6 p6 T6 rfl
 have e6':¬e5≠0:=by simpa using hc
 rw[if_neg e6'] at hK0 hK1
 have wld:∀{K:Addr→Sl→Addr→Int→Prop},(∀a x c,K a x c (bH (di (b.drop 1))))→ab sr.a fun a_2=>(0≤(0:Int)∧(0:Int)<(sr.n:Int))∧ld aq H6 (a_2.add ((0:Int).toNat*1)) fun(x_2:Sl)=>ab x_2.a fun a_3=>(0≤(0:Int)∧(0:Int)<(x_2.n:Int))∧ld (aa .u64) H6 (a_3.add ((0:Int).toNat*1)) fun(x_3:Int)=>K a_2 x_2 a_3 x_3:=fun {K} hk=>by
  refine ro6.ld (i:=0) (by simp) fun ad1 x1 ha1 hx1=>?_
  have hx1':Ints .u64 H6 x1 [bH (di (b.drop 1))]:=hx1
  exact gr hx1' (i:=0) (j:=0) rfl (by simp) fun ad2 ha2=>hk ad1 x1 ad2
 have hwr:=fU (di (b.drop 1))
 generalize bH (di (b.drop 1))=w at*
 have hrm:=cA ⟨n,W,0,false⟩
 refine wld fun _ _ _=>?_
 refine ag (fun hc=>?_) (fun hc=>?_)
 ·have hw : ¬ w ≤ 528482304 := by have : w > 528482304 := by simpa using hc
                                  omega
  rw[if_neg (fun q=>hw q.1)] at hK0
  exact hK0 F4 H6 p6 T6 rfl
 ·have hw : w ≤ 528482304 := by have : ¬ w > 528482304 := by simpa using hc
                                omega
  refine wld fun _ _ _=>?_
  obtain⟨wn,rfl⟩:∃wn:Nat,w=(wn:Int):=⟨w.toNat,by omega⟩
  rw[show IntKind.i64.wrap (wn:Int)=(wn:Int) from wrap64 (by omega) (by omega)]
  have hroom:0<(Rb.room ⟨n,W,0,false⟩):=by
   have:=hrm.1;simp only at this;omega
  have hrr:aS W=((aS W).toNat:Int):=hrm.1
  rw[hrr]
  refine mG ⟨hroom,hrm.2⟩ (by omega) ?_
  have hpl:=cS (n:=wn) hroom
  have hrt:Rb.room ⟨n,W,0,false⟩=(aS W).toNat:=rfl
  rw[hrt] at hpl
  have w2:IntKind.i64.wrap (1+(av wn (aS W).toNat:Int))=((1+av wn (aS W).toNat:Nat):Int):=by
   rw[wrap64 (by omega) (by omega)];omega
  rw[w2]
  rw[Int.toNat_natCast] at hK0 hK1
  refine ag (fun hc=>?_) (fun hc=>?_)
  ·have e7:¬(((wn:Nat):Int)≤528482304∧N=1+av wn (aS W).toNat):=fun q=>by
    rw[q.2] at hc;simp at hc
   rw[if_neg e7] at hK0
   exact hK0 F4 H6 p6 T6 rfl
  ·have e7:N=1+av wn (aS W).toNat:=by
    have:(N:Int)=((1+av wn (aS W).toNat:Nat):Int):=by simpa using hc
    omega
   rw[if_pos ⟨hw,e7⟩] at hK1
   refine wld fun _ _ _=>?_
   rw[show IntKind.i64.wrap (wn:Int)=(wn:Int) from wrap64 (by omega) (by omega)]
   refine ai.st b6 (i:=5) (by simp[bQ]) rfl fun H7 r7 m7 z7=>?_
   have hk4:¬F4 H.size:=fun q=>by
    rcases S4.own _ q with u|u
    ·exact hk u
    ·omega
   have:=T6.mod.size
   refine hK1 F4 H7 H.size ⟨⟨n,W,0,false⟩,wn,0,none,[]⟩ (p6.keep fun b hb _=>m7.same b (p6.lt b hb) fun q=>hk4 (q▸hb)) ⟨⟨by omega,fun b hb hn=>(m7.same b (by omega) fun q=>by omega).trans (T6.mod.same b hb hn)⟩,fun b hb=>T6.own b hb⟩ rfl ⟨r7,aT.nil _ _⟩ (Nat.le_refl _) hk4
end
section
variable {H0:Heap} {F0 O0:Nat→Prop} {k p dp:Nat} {si:Sl} {rs:List Sl} {F:Nat→Prop} {A:Heap} {s:Pl} {r:RR} {low:Sl} {ll:List Int}
theorem dr.start (h:dr H0 F0 O0 k p dp si rs F A s r):dr A F (gV k si rs) k p dp si rs F A s r:=⟨h.ae,h.rd,h.dis,.refl _ _,fun _ q=>.inl q,fun _ q=>.inl q⟩
theorem dr.trans {si':Sl} {rs':List Sl} {F':Nat→Prop} {A':Heap} {s':Pl} {r':RR} (h:dr H0 F0 O0 k p dp si rs F A s r) (g:dr A F (gV k si rs) k p dp si' rs' F' A' s' r'):dr H0 F0 O0 k p dp si' rs' F' A' s' r':=by
 have z:=h.mod.size
 refine⟨g.ae,g.rd,g.dis,h.mod.trans' g.mod fun b hb q=>?_,fun b hb=>?_,fun b hb=>?_⟩
 ·rcases q with q|q
  ·rcases h.own b q with u|u
   ·exact .inl u
   ·omega
  ·exact .inr q
 ·rcases g.own b hb with q|q
  ·exact h.own b q
  ·right;omega
 ·rcases g.own2 b hb with q|q
  ·exact h.own2 b q
  ·right;omega
theorem RR.Ok.E7 (h:r.Ok) {m:Nat} (hm:m≤r.rows):({r with at_:=m}:RR).Ok:=⟨h.room,hm,h.page,h.rows,h.cols⟩
theorem Bu {B:Heap} {s':Pl} {r':RR} {F':Nat→Prop} {si':Sl} {rs':List Sl} {m0:Nat} {K:Int→Heap→Prop} (G:dr A F (gV k si rs) k p dp si' rs' F' B s' r') (hl:Ints .u64 A low ll) (hlb:∀ad,low.a=some ad→ll≠[]→¬F ad.block∧ad.block≠k) (hc:∀l∈r'.ins,l.length≤16) (hn:r'.ins.length≤1000000) (hm0:r'.at_=m0) (hmb:m0≤528482304)
  (hK:∀B',dr A F (gV k si rs) k p dp si' rs' F' B' s' {r' with at_:=m0+below ll r'.ins}→K 0 B'):
  aC Int (0:Int) B fun next_1 i H11=>Go.Proofs.YtdpdmbceakdlmaaGreatDoor.ld aq H11 ((⟨k,0,none⟩:Addr).add 8) fun(x_8:Sl)=>br (decide (i<(x_8.n:Int))) (Go.Proofs.YtdpdmbceakdlmaaGreatDoor.ld aq H11 ((⟨k,0,none⟩:Addr).add 8) fun(x_9:Sl)=>ab x_9.a fun a_13=>(0≤i∧i<(x_9.n:Int))∧Go.Proofs.YtdpdmbceakdlmaaGreatDoor.ld aq H11 (a_13.add (i.toNat*1)) fun(x_10:Sl)=>yR.sp x_10 low H11 fun(r_3:Int) H12=>br (decide (r_3<(0:Int))) (Go.Proofs.YtdpdmbceakdlmaaGreatDoor.ld (aa .i64) H12 ((⟨k,0,none⟩:Addr).add 6) fun(x_11:Int)=>Go.Proofs.YtdpdmbceakdlmaaGreatDoor.st H12 ((⟨k,0,none⟩:Addr).add 6) (.int .i64 (IntKind.i64.wrap (x_11+(1:Int)))) fun H13=>next_1 (IntKind.i64.wrap (i+(1:Int))) H13) (K (0:Int) H12)) (K (0:Int) H11):=by
 refine aw r'.ins.length (fun i z C=>z=(i:Int)∧dr A F (gV k si rs) k p dp si' rs' F' C s' {r' with at_:=m0+i}∧∀x,x<i→bt (r'.ins.getD x []) ll<0) ⟨rfl,by subst hm0;exact G,fun x hx=>by omega⟩ ?_
 rintro i _ C next hi ⟨rfl,GC,hb⟩ hnext
 refine ai.ld (c:=aq) (i:=8) (x:=si') GC.rd.row (bl.tail (j:=3) rfl) ?_
 have hin:=GC.rd.ins.n
 simp only at hin
 refine ag (fun hc1=>?_) (fun hc1=>?_)
 ·have hlt : i < r'.ins.length := by have : (i : Int) < (si'.n : Int) := by simpa using hc1
                                     omega
  refine ai.ld (c:=aq) (i:=8) (x:=si') GC.rd.row (bl.tail (j:=3) rfl) ?_
  refine GC.rd.ins.rows.ld hlt fun ad x ha hx=>?_
  have hcol:=hc _ (List.getElem_mem hlt)
  have hlC:Ints .u64 C low ll:=by
   by_cases hne:ll=[]
   ·subst hne;exact⟨hl.len,fun i v hv=>by simp at hv⟩
   ·exact hl.mod GC.mod fun ad ha q=>by
     obtain⟨q1,q2⟩:=hlb ad ha hne
     rcases q with q|q
     ·exact q1 q
     ·exact q2 q
  refine ka hx hlC (by show (r'.ins[i]).length<_;omega) ?_
  have eg:r'.ins.getD i []=r'.ins[i]:=rF hlt
  rw[←eg]
  refine ag (fun hc2=>?_) (fun hc2=>?_)
  ·have e:bt (r'.ins.getD i []) ll<0:=by simpa using hc2
   refine ai.ld (c:=aa .i64) (i:=6) (x:=((m0+i:Nat):Int)) GC.rd.row (bl.tail (j:=1) rfl) ?_
   refine ai.st GC.rd.row (i:=6) (by simp[bQ]) rfl fun D r3 m3 z3=>?_
   rw[aK (m0+i) (by omega)] at r3
   have r3':bl D k Dz p r'.b [.int .i64 (r'.rows:Int),.int .i64 ((m0+(i+1):Nat):Int),.int .i64 (dF r'.page),si'.v]:=by
    have e:(bQ p r'.b++[.int .i64 (r'.rows:Int),.int .i64 ((m0+i:Nat):Int),.int .i64 (dF r'.page),si'.v]).toArray.setIfInBounds 6 (.int .i64 ((m0+i+1:Nat):Int))=(bQ p r'.b++[.int .i64 (r'.rows:Int),.int .i64 ((m0+(i+1):Nat):Int),.int .i64 (dF r'.page),si'.v]).toArray:=by
     simp[bQ];omega
    rw[e] at r3;exact r3
   refine hnext hlt _ _ ⟨aK i (by omega),GC.aZ m3 ⟨r3',GC.rd.ins.mod m3 (fun b hb q=>GC.rd.nN (q▸hb)) fun x hx b hb q=>GC.rd.ly x hx (q▸hb)⟩ fun b q=>.inl q,fun x hx=>?_⟩
   by_cases q:x=i
   ·subst q;exact e
   ·exact hb x (by omega)
  ·have e:¬bt (r'.ins.getD i []) ll<0:=by simpa using hc2
   have eb:below ll r'.ins=i:=jv hi hb fun _=>e
   rw[eb] at hK
   exact hK C GC
 ·have hge : i = r'.ins.length := by have : ¬ (i : Int) < (si'.n : Int) := by simpa using hc1
                                     omega
  have eb:below ll r'.ins=i:=jv hi hb fun u=>by omega
  rw[eb] at hK
  exact hK C GC
set_option maxHeartbeats 2000000 in
theorem An {K:Int→Heap→Prop} (h:dr H0 F0 O0 k p dp si rs F A s r) (ok:r.Ok) (hl:Ints .u64 A low ll) (hlb:∀ad,low.a=some ad→ll≠[]→¬F ad.block∧ad.block≠k) (hlow:(ll.length:Int)≤r.b.width→ll.length≤1000000)
  (hn:r.b.name.size≤9223372036854775807) (hlogs:s.d.logs+528482304<68719460000) (hnx:s.next+528482304<1099511610000) (h0:0≤s.next)
  (hK:∀F' si' rs' A' r',dr H0 F0 O0 k p dp si' rs' F' A' (r.bL s ll).1 r'→r'.Ok→(r'=(r.bL s ll).2.1∨r'.b=(r.bL s ll).2.1.b∧r'.b.ready≠0)→K (r.bL s ll).2.2 A'):Dl.sp (ay k) low A K:=by
 refine Dl.of ?_
 unfold Dl.vc
 simp only[ak,ay]
 obtain⟨rm1,rm2⟩:=cA r.b
 unfold RR.bL at hK
 refine j6 h.rd.row ?_
 refine ag (fun hc=>?_) (fun hc=>?_)
 ·have e0:r.b.ready≠0:=by simpa using hc
  rw[if_pos e0] at hK
  exact hK F si rs A r h ok (.inl rfl)
 have e0:¬r.b.ready≠0:=by simpa using hc
 rw[if_neg e0] at hK
 obtain⟨hw0,_⟩:=Rb.rz e0
 have hln:=hl.len
 refine ai.ld (c:=aa .i64) (i:=2) (x:=r.b.width) h.rd.row (bl.get 2 _ rfl) ?_
 refine ag (fun hc=>?_) (fun hc=>?_)
 ·have e1:(ll.length:Int)>r.b.width:=by rw[←hln];simpa using hc
  rw[if_pos e1] at hK
  exact hK F si rs A r h ok (.inl rfl)
 have e1:¬(ll.length:Int)>r.b.width:=by rw[←hln];simpa using hc
 rw[if_neg e1] at hK
 have hlow:=hlow (by omega)
 refine ai.ld (c:=aa .i64) (i:=2) (x:=r.b.width) h.rd.row (bl.get 2 _ rfl) ?_
 refine eW ?_
 refine ai.ld (c:=aa .i64) (i:=5) (x:=(r.rows:Int)) h.rd.row (bl.tail (j:=0) rfl) ?_
 rw[rm1]
 have hroom:=ok.room
 have hrow:=ok.rows
 refine mG ⟨hroom,rm2⟩ hrow ?_
 have hNle:=cS (n:=r.rows) hroom
 have hlow2:∀{B:Heap} {s':Pl} {r':RR} {F':Nat→Prop} {si':Sl} {rs':List Sl},dr A F (gV k si rs) k p dp si' rs' F' B s' r'→Ints .u64 B low ll:=fun {B s' r' F' si' rs'} G=>by
  by_cases hne:ll=[]
  ·subst hne;exact⟨hl.len,fun i v hv=>by simp at hv⟩
  ·exact hl.mod G.mod fun ad ha q=>by
    obtain⟨q1,q2⟩:=hlb ad ha hne
    rcases q with q|q
    ·exact q1 q
    ·exact q2 q
 have hfind:r.find s ll=RR.cw ll (av r.rows r.b.room) 0 (av r.rows r.b.room) s r:=rfl
 generalize hN:av r.rows r.b.room=N at*
 refine aw N (fun m z B=>∃(i j:Nat) (s':Pl) (r':RR) (F':Nat→Prop) (si':Sl) (rs':List Sl),z=((i:Int),(j:Int))∧dr A F (gV k si rs) k p dp si' rs' F' B s' r'∧r.find s ll=RR.cw ll (N - m) i j s' r'∧i≤j∧j≤N∧j - i+m≤N∧r'.Ok∧r'.rows=r.rows∧r'.b=r.b∧r'.at_=r.at_∧s'.next≤s.next+m∧s'.d.logs≤s.d.logs+m∧0≤s'.next)
  ⟨0,N,s,r,F,si,rs,rfl,h.start,hfind,Nat.zero_le _,Nat.le_refl _,by omega,ok,rfl,rfl,rfl,by omega,by omega,h0⟩ ?_
 rintro m _ B next hm ⟨i,j,s',r',F',si',rs',rfl,G,hf,hij,hjN,hmN,ok',hr1,hb1,ha1,hnx',hlg',h0'⟩ hnext
 simp only
 refine ag (fun hc=>?_) (fun hc=>?_)
 ·have hlt : i < j := by have : (i : Int) < (j : Int) := by simpa using hc
                         omega
  have hmid:=rI (i:=i) (j:=j) (by omega)
  have hfm:N - m=(N - (m+1))+1:=by omega
  rw[hfm] at hf
  unfold RR.cw at hf
  rw[if_pos hlt] at hf
  have hmidN:(i+j)/2<N:=by omega
  have hpl:=fY (j:=(i+j)/2) (n:=r'.rows) ok'.room (by rw[hr1,hb1,hN];exact hmidN)
  have hldb:=RR.nA (r:=r') (s:=s') (j:=(i+j)/2) h0' (by omega)
  have hmid2:IntKind.i64.wrap (Int.tdiv (IntKind.i64.wrap ((i:Int)+(j:Int))) (2:Int))=(((i+j)/2:Nat):Int):=by
   have e1:IntKind.i64.wrap ((i:Int)+(j:Int))=((i+j:Nat):Int):=by rw[wrap64 (by omega) (by omega)];omega
   have e2:Int.tdiv ((i+j:Nat):Int) (2:Int)=(((i+j)/2:Nat):Int):=rfl
   rw[e1,e2,wrap64 (by omega) (by omega)]
  rw[hmid2]
  refine pt G ok' (by rw[hb1];exact hw0) (by omega) (by omega) (by rw[hb1];exact hn) (by omega) (by omega) h0' fun F1 si1 rs1 A1 B1 hz=>?_
  obtain⟨k1,k2,k3,k4,_,k6⟩:=RR.dz (s:=s') (j:=(i+j)/2) ok'
  have kbad:=RR.oF (s:=s') (r:=r') (j:=(i+j)/2)
  have hnxt:0≤(r'.load s' ((i+j)/2)).1.next:=by
   have:=B1.ae.wf.tick;omega
  generalize (r'.load s' ((i+j)/2)).1=s1 at*
  generalize (r'.load s' ((i+j)/2)).2.1=r1 at*
  generalize (r'.load s' ((i+j)/2)).2.2=e2 at*
  refine ag (fun hc=>?_) (fun hc=>?_)
  ·have e3:e2≠0:=by simpa using hc
   rw[if_pos e3] at hf
   rw[hf,if_pos e3] at hK
   exact hK F1 si1 rs1 A1 r1 (h.trans B1) k1 (.inl rfl)
  have e3:¬e2≠0:=by simpa using hc
  rw[if_neg e3] at hf
  obtain⟨k7,k8⟩:=k6 (by omega)
  have hlen:=k1.page _ k8
  rw[k7,k2,hb1,hr1] at hlen
  rw[hb1,hr1] at hpl
  have hpos:0<r1.ins.length:=by rw[hlen];omega
  have hil:r1.ins.length≤504:=by rw[hlen];omega
  have sin:=B1.rd.ins.n
  refine ai.ld (c:=aq) (i:=8) (x:=si1) B1.rd.row (bl.tail (j:=3) rfl) ?_
  refine ai.ld (c:=aq) (i:=8) (x:=si1) B1.rd.row (bl.tail (j:=3) rfl) ?_
  have hlast:IntKind.i64.wrap ((si1.n:Int) - 1)=((r1.ins.length - 1:Nat):Int):=by
   rw[sin,wrap64 (by omega) (by omega)];omega
  rw[hlast]
  refine B1.rd.ins.rows.ld (by omega) fun ad x ha hx=>?_
  have hcol:=k1.cols _ (List.getElem_mem (show r1.ins.length - 1<r1.ins.length by omega))
  refine ka hx (hlow2 B1) (by omega) ?_
  have el:jh r1.ins=r1.ins[r1.ins.length - 1]:=rF (by omega)
  rw[←el]
  refine ag (fun hc=>?_) (fun hc=>?_)
  ·have e4:bt (jh r1.ins) ll<0:=by simpa using hc
   rw[if_pos e4] at hf
   refine hnext (by omega) _ _ ⟨(i+j)/2+1,j,s1,r1,F1,si1,rs1,by rw[aK _ (by omega)],B1,hf,by omega,hjN,by omega,k1,by rw[k2];exact hr1,by rw[k7];exact hb1,by rw[k3];exact ha1,by omega,by omega,hnxt⟩
  ·have e4:¬bt (jh r1.ins) ll<0:=by simpa using hc
   rw[if_neg e4] at hf
   exact hnext (by omega) _ _ ⟨i,(i+j)/2,s1,r1,F1,si1,rs1,rfl,B1,hf,by omega,by omega,by omega,k1,by rw[k2];exact hr1,by rw[k7];exact hb1,by rw[k3];exact ha1,by omega,by omega,hnxt⟩
 ·have hge : ¬ i < j := by have : ¬ (i : Int) < (j : Int) := by simpa using hc
                           omega
  have hf2:r.find s ll=(s',r',i,0):=by
   rw[hf]
   cases N - m with
   |zero=>rfl
   |succ f=>unfold RR.cw;rw[if_neg hge]
  rw[hf2,if_neg (by simp)] at hK
  unfold RR.goto at hK
  simp only at hK
  rw[hr1,hb1,hN] at hK
  refine ai.ld (c:=aa .i64) (i:=5) (x:=(r'.rows:Int)) G.rd.row (bl.tail (j:=0) rfl) ?_
  refine ai.st G.rd.row (i:=6) (by simp[bQ]) rfl fun B2 r2 m2 z2=>?_
  have r2':bl B2 k Dz p r'.b [.int .i64 (r'.rows:Int),.int .i64 (r'.rows:Int),.int .i64 (dF r'.page),si'.v]:=by
   have e:(bQ p r'.b++[.int .i64 (r'.rows:Int),.int .i64 (r'.at_:Int),.int .i64 (dF r'.page),si'.v]).toArray.setIfInBounds 6 (.int .i64 (r'.rows:Int))=(bQ p r'.b++[.int .i64 (r'.rows:Int),.int .i64 (r'.rows:Int),.int .i64 (dF r'.page),si'.v]).toArray:=by
    simp[bQ]
   rw[e] at r2;exact r2
  have G2:dr A F (gV k si rs) k p dp si' rs' F' B2 s' {r' with at_:=r'.rows}:=G.aZ m2 ⟨r2',G.rd.ins.mod m2 (fun b hb q=>G.rd.nN (q▸hb)) fun x hx b hb q=>G.rd.ly x hx (q▸hb)⟩ fun b q=>.inl q
  have ok2:=ok'.E7 (Nat.le_refl r'.rows)
  refine ai.ld (c:=aa .i64) (i:=5) (x:=(r'.rows:Int)) G2.rd.row (bl.tail (j:=0) rfl) ?_
  rw[hr1]
  refine mG ⟨hroom,rm2⟩ hrow ?_
  rw[hN]
  refine ag (fun hc=>?_) (fun hc=>?_)
  ·have hiN : i < N := by have : (i : Int) < (N : Int) := by simpa using hc
                          omega
   rw[if_neg (by omega)] at hK
   have hpl:=fY (j:=i) (n:=r'.rows) ok'.room (by rw[hr1,hb1,hN];exact hiN)
   refine pt G2 ok2 (by show r'.b.wrong=0;rw[hb1];exact hw0) (by show i*r'.b.room≤r'.rows;omega) (by omega) (by show r'.b.name.size≤_;rw[hb1];exact hn) (by omega) (by omega) h0' fun F1 si1 rs1 A1 B1 hz=>?_
   have hlc:({r' with at_:=r'.rows}:RR).load s' i=((r'.load s' i).1,{(r'.load s' i).2.1 with at_:=r'.rows},(r'.load s' i).2.2):=by
    unfold RR.load RR.fits
    simp only
    split
    ·rfl
    ·split
     ·rfl
     ·split<;>rfl
   obtain⟨k1,k2,k3,k4,_,k6⟩:=RR.dz (s:=s') (j:=i) ok'
   have kbad:=RR.oF (s:=s') (r:=r') (j:=i)
   have k1':({(r'.load s' i).2.1 with at_:=r'.rows}:RR).Ok:=k1.E7 (by rw[k2];exact Nat.le_refl _)
   rw[hlc] at B1 ⊢
   rcases hX:r'.load s' i with ⟨s1,r1,e2⟩
   simp only[hX] at B1 hK k1 k2 k3 k4 k6 kbad k1' ⊢
   refine ag (fun hc=>?_) (fun hc=>?_)
   ·have e3:e2≠0:=by simpa using hc
    rw[if_pos e3] at hK
    refine hK F1 si1 rs1 A1 _ (h.trans B1) k1' (.inr ⟨rfl,?_⟩)
    show r1.b.ready≠0
    have:=kbad e3
    unfold Rb.ready
    rw[if_pos (by rw[this];exact e3),this]
    exact e3
   have e3:¬e2≠0:=by simpa using hc
   rw[if_neg e3] at hK
   obtain⟨k7,k8⟩:=k6 (by omega)
   have hlen:=k1.page _ k8
   rw[k7,k2,hb1,hr1] at hlen
   rw[hb1,hr1] at hpl
   have hjr:(i:Int)*(r.b.room:Int)=((i*r.b.room:Nat):Int):=by simp
   have hw1:IntKind.i64.wrap ((i:Int)*(r.b.room:Int))=((i*r.b.room:Nat):Int):=by
    rw[hjr];exact wrap64 (by omega) (by omega)
   rw[hw1]
   refine ai.st B1.rd.row (i:=6) (by simp[bQ]) rfl fun A3 r3 m3 z3=>?_
   have r3':bl A3 k Dz p r1.b [.int .i64 (r1.rows:Int),.int .i64 ((i*r.b.room:Nat):Int),.int .i64 (dF r1.page),si1.v]:=by
    have e:(bQ p r1.b++[.int .i64 (r1.rows:Int),.int .i64 (r'.rows:Int),.int .i64 (dF r1.page),si1.v]).toArray.setIfInBounds 6 (.int .i64 ((i*r.b.room:Nat):Int))=(bQ p r1.b++[.int .i64 (r1.rows:Int),.int .i64 ((i*r.b.room:Nat):Int),.int .i64 (dF r1.page),si1.v]).toArray:=by
     simp[bQ]
    rw[e] at r3;exact r3
   have G3:dr A F (gV k si rs) k p dp si1 rs1 F1 A3 s1 {r1 with at_:=i*r.b.room}:=B1.aZ m3 ⟨r3',B1.rd.ins.mod m3 (fun b hb q=>B1.rd.nN (q▸hb)) fun x hx b hb q=>B1.rd.ly x hx (q▸hb)⟩ fun b q=>.inl q
   refine Bu (m0:=i*r.b.room) G3 hl hlb k1.cols (by show r1.ins.length≤_;omega) rfl (by omega) fun B4 G4=>?_
   have hbl:below ll r1.ins≤r1.ins.length:=by unfold below;exact(List.takeWhile_sublist _).length_le
   refine hK F1 si1 rs1 B4 _ (h.trans G4) (k1.E7 (m:=i*r.b.room+below ll r1.ins) (by rw[k2,hr1];omega)) (.inl rfl)
  ·have hiN : i = N := by have : ¬ (i : Int) < (N : Int) := by simpa using hc
                          omega
   rw[if_pos hiN] at hK
   rw[hr1] at G2 ok2
   exact hK F' si' rs' B2 _ (h.trans G2) ok2 (.inl (by rw[hb1]))
end
end Go.Proofs.YtdpdmbceakdlmaaGreatDoor
namespace Go.Proofs.YtdpdmbceakdlmaaGreatDoor
open Go.ChangeShapes Go.WideShapes Go.ChangeAt Go.RowKit
end Go.Proofs.YtdpdmbceakdlmaaGreatDoor
namespace Go.Proofs.YtdpdmbceakdlmaaGreatDoor
theorem dR (n:Int) (k:Nat) (d:Int) (hd:(2:Int)^(min (56 - 8*(k:Int)).toNat IntKind.u64.bits)=d) (h0:0≤d):fO n k=n/d%256:=by
 unfold fO cr
 rw[IntKind.wrap_u8,hd,Int.fdiv_eq_ediv_of_nonneg _ h0]
theorem uq {n:Int} (h0:0≤n) (h1:n<18446744073709551616):∃b0 b1 b2 b3 b4 b5 b6 b7:Int,cu n=[b0,b1,b2,b3,b4,b5,b6,b7]∧
  (0≤b0∧b0<256)∧(0≤b1∧b1<256)∧(0≤b2∧b2<256)∧(0≤b3∧b3<256)∧(0≤b4∧b4<256)∧(0≤b5∧b5<256)∧(0≤b6∧b6<256)∧(0≤b7∧b7<256)∧
  n=b0*72057594037927936+b1*281474976710656+b2*1099511627776+b3*4294967296+b4*16777216+b5*65536+b6*256+b7:=by
 refine⟨fO n 0,fO n 1,fO n 2,fO n 3,fO n 4,fO n 5,fO n 6,fO n 7,rfl,cI n 0,cI n 1,cI n 2,cI n 3,cI n 4,cI n 5,cI n 6,cI n 7,?_⟩
 rw[dR n 0 72057594037927936 (by decide) (by decide),dR n 1 281474976710656 (by decide) (by decide),dR n 2 1099511627776 (by decide) (by decide),dR n 3 4294967296 (by decide) (by decide),
  dR n 4 16777216 (by decide) (by decide),dR n 5 65536 (by decide) (by decide),dR n 6 256 (by decide) (by decide),dR n 7 1 (by decide) (by decide)]
 omega
theorem c0 {w b:Int} (h0:0≤w) (h1:w<72057594037927936) (h2:0≤b) (h3:b<256):jx w b=w*256+b:=by
 unfold jx
 simp only[po]
 omega
theorem rU {n:Int} (h0:0≤n) (h1:n<18446744073709551616):bH (cu n)=n:=by
 obtain⟨b0,b1,b2,b3,b4,b5,b6,b7,e,r0,r1,r2,r3,r4,r5,r6,r7,hs⟩:=uq h0 h1
 rw[e]
 unfold bH
 simp only[List.foldl_cons,List.foldl_nil]
 rw[c0 (w:=0) (by omega) (by omega) r0.1 r0.2,c0 (by omega) (by omega) r1.1 r1.2,c0 (by omega) (by omega) r2.1 r2.2,c0 (by omega) (by omega) r3.1 r3.2,
  c0 (by omega) (by omega) r4.1 r4.2,c0 (by omega) (by omega) r5.1 r5.2,c0 (by omega) (by omega) r6.1 r6.2,c0 (by omega) (by omega) r7.1 r7.2]
 omega
def oL (l:List Int):Prop:=∀x∈l,0≤x∧x<18446744073709551616
theorem kP {n:Nat}:∀(L:List (List Int)),(∀l∈L,l.length=n)→∀k (hk:k<L.length),((L.flatten).drop (k*n)).take n=L[k]
 |[],_,k,hk=>by simp at hk
 |l::L,h,0,_=>by
   have:=h l List.mem_cons_self
   simp[←this]
 |l::L,h,k+1,hk=>by
   have h1:=h l List.mem_cons_self
   have ih:=kP L (fun x hx=>h x (List.mem_cons_of_mem _ hx)) k (by simpa using hk)
   rw[List.flatten_cons,Nat.succ_mul,Nat.add_comm,List.drop_append,List.drop_of_length_le (by omega),List.nil_append]
   have:n+k*n - l.length=k*n:=by omega
   rw[this]
   simpa using ih
theorem tu {n:Nat}:∀(L:List (List Int)),(∀l∈L,l.length=n)→L.flatten.length=L.length*n
 |[],_=>by simp
 |l::L,h=>by
   rw[List.flatten_cons,List.length_append,h l List.mem_cons_self,tu L (fun x hx=>h x (List.mem_cons_of_mem _ hx))]
   simp[Nat.succ_mul];omega
theorem xF {l:List Int} {w:Nat} (hl:l.length=w) (hf:oL l):rowOf (bS l) w=l:=by
 by_cases h:l=[]
 ·subst h;simp at hl;subst hl;rfl
 ·unfold bS
  rw[if_neg h]
  apply List.ext_getElem
  ·simp[rowOf,hl]
  ·intro j h1 h2
   simp only[rowOf,List.getElem_map,List.getElem_range]
   have:=kP (n:=8) (l.map cu) (by intro x hx;obtain⟨y,_,rfl⟩:=List.mem_map.1 hx;exact bD y) j (by simpa using h2)
   rw[←List.flatMap_def] at this
   rw[Nat.mul_comm,this]
   simp only[List.getElem_map]
   exact rU (hf _ (List.getElem_mem h2)).1 (hf _ (List.getElem_mem h2)).2
theorem ki {l:List Int} {w:Nat} (hl:l.length=w) (hw:w≤16):(bS l).length=(bg w).toNat∧0<(bg w).toNat:=by
 unfold bS bg
 by_cases h:l=[]
 ·subst h;simp at hl;subst hl;simp
 ·have:0<l.length:=List.length_pos_iff.2 h
  rw[if_neg h,if_neg (by omega),if_neg (by omega),nH]
  omega
theorem kI {L:List (List Int)} {w:Nat} (hw:w≤16) (hl:∀l∈L,l.length=w) (hf:∀l∈L,oL l):fS (L.flatMap bS) w=L∧kq (L.flatMap bS) w=0:=by
 have hlen:∀l∈L.map bS,l.length=(bg w).toNat:=by
  intro l h
  obtain⟨x,hx,rfl⟩:=List.mem_map.1 h
  exact(ki (hl x hx) hw).1
 have hn0:0<(bg w).toNat:=(ki (l:=List.replicate w 0) (by simp) hw).2
 have htot:(L.flatMap bS).length=L.length*(bg w).toNat:=by
  rw[List.flatMap_def,tu _ hlen];simp
 have hok:da (L.flatMap bS) w=true:=by
  refine kJ (by omega) ?_ ?_
  ·have e:bg w=(((bg w).toNat:Nat):Int):=by omega
   rw[e,htot,←Int.ofNat_tmod,Nat.mul_mod_left];rfl
  ·intro h0 k hk
   have h0':w=0:=by omega
   subst h0'
   have:∀x∈L.flatMap bS,x=0:=by
    intro x hx
    obtain⟨l,h1,h2⟩:=List.mem_flatMap.1 hx
    have:l=[]:=List.eq_nil_of_length_eq_zero (hl l h1)
    subst this
    simpa[bS] using h2
   simp only[List.getD,List.getElem?_eq_getElem hk,Option.getD_some]
   exact this _ (List.getElem_mem hk)
 unfold fS kq
 rw[hok,if_pos rfl,if_pos rfl,htot,Nat.mul_div_cancel _ hn0]
 refine⟨?_,rfl⟩
 apply List.ext_getElem
 ·simp[rowsOf]
 ·intro k h1 h2
  simp only[rowsOf,List.getElem_map,List.getElem_range]
  have:=kP (L.map bS) hlen k (by simpa using h2)
  rw[←List.flatMap_def] at this
  unfold bx
  rw[this]
  simp only[List.getElem_map,Int.toNat_natCast]
  exact xF (hl _ (List.getElem_mem h2)) (hf _ (List.getElem_mem h2))
theorem kL:∀{a b c:List Int},bt a b<0→bt b c<0→bt a c<0
 |[],[],_,h,_=>by simp[bt] at h
 |[],_::_,[],_,h=>by simp[bt] at h
 |[],_::_,_::_,_,_=>by simp[bt]
 |_::_,[],_,h,_=>by simp[bt] at h
 |_::_,_::_,[],_,h=>by simp[bt] at h
 |x::a,y::b,z::c,h1,h2=>by
   simp only[bt] at h1 h2 ⊢
   have ih:=@kL a b c
   split at h1
   ·split at h2
    ·rw[if_pos (by omega)];decide
    ·split at h2
     ·omega
     ·rw[if_pos (by omega)];decide
   ·split at h1
    ·omega
    ·split at h2
     ·rw[if_pos (by omega)];decide
     ·split at h2
      ·omega
      ·rw[if_neg (by omega),if_neg (by omega)];exact ih h1 h2
theorem wW {a b:List Int}:0<bt a b↔bt b a<0:=by rw[qq b a];omega
theorem qz (a:List Int):bt a a=0:=qH.2 rfl
structure gH (W:Nat) (rs:List (List Int)):Prop where
 len:∀l∈rs,l.length=W
 fit:∀l∈rs,oL l
 up:∀i,i+1<rs.length→bt (rs.getD i []) (rs.getD (i+1) [])<0
def uN (W:Nat):Nat:=if W=0 then 1 else 8*W
def bB (W:Nat):Nat:=504/uN W
theorem C9 (W:Nat):1≤uN W:=by unfold uN;split<;>omega
theorem bE {W:Nat} (h1:0≤W) (h2:W≤16):aS W=((bB W:Nat):Int)∧3≤bB W∧bB W*uN W≤504∧bB W≤504:=by
 have hs:bg W=(uN W:Int):=by
  unfold bg uN
  rw[if_neg (by omega)]
  by_cases h:W=0
  ·rw[if_pos (by omega),if_pos h];rfl
  ·rw[if_neg (by omega),if_neg h];omega
 have hp:=C9 W
 have hm:uN W≤128:=by unfold uN;split<;>omega
 refine⟨?_,?_,Nat.div_mul_le_self _ _,Nat.div_le_self _ _⟩
 ·unfold aS
  rw[if_neg (by rw[hs];omega),hs,Int.tdiv_eq_ediv_of_nonneg (by omega)]
  exact(Int.natCast_ediv 504 (uN W)).symm
 ·unfold bB
  rw[Nat.le_div_iff_mul_le (by omega)];omega
def uX (l:List Int):List UInt8:=cg (bS l)
theorem tG {l:List Int} (h:l≠[]):(uX l).length=8*l.length:=by
 unfold uX bS
 rw[if_neg h,bP,List.length_flatMap]
 have:∀l:List Int,(l.map fun x=>(cu x).length).sum=8*l.length:=by
  intro l
  induction l with
  |nil=>rfl
  |cons x l ih=>rw[List.map_cons,List.sum_cons,ih];simp[cu];omega
 exact this l
def cj (L:List (List Int)):List UInt8:=L.flatMap uX
theorem xZ {l:List Int} {W:Nat} (h:l.length=W):(uX l).length=uN W:=by
 unfold uN
 by_cases q:W=0
 ·rw[if_pos q]
  have:l=[]:=List.eq_nil_of_length_eq_zero (by omega)
  subst this;rfl
 ·rw[if_neg q,tG (by intro e;rw[e] at h;simp at h;omega),h]
theorem fW {W:Nat} (hW:0≤W):∀{L:List (List Int)},(∀l∈L,l.length=W)→(cj L).length=L.length*uN W
 |[],_=>by simp[cj]
 |a::L,h=>by
   have h2:=fW hW (L:=L) fun l hl=>h l (List.mem_cons_of_mem _ hl)
   have h3:(uX a).length=uN W:=xZ (h a List.mem_cons_self)
   unfold cj at h2 ⊢
   rw[List.flatMap_cons,List.length_append,h2,h3,List.length_cons,Nat.add_mul]
   omega
theorem mW:∀(L:List (List Int)),di (cj L)=L.flatMap bS
 |[]=>rfl
 |a::L=>by
   have:=mW L
   unfold cj at this ⊢
   rw[List.flatMap_cons,List.flatMap_cons,←this]
   unfold di
   rw[List.map_append]
   congr 1
   exact kV (fe a)
def bO (rs:List (List Int)) (room k:Nat):List (List Int):=(rs.drop (k*room)).take room
def runT (rs:List (List Int)) (room:Nat):Nat→UInt8×List UInt8
 |0=>(0,[])
 |k+1=>(1,cj (bO rs room k))
structure iz (p:Pl) (w:RW) (n:ByteArray) (W room:Nat) (rs:List (List Int)) (q i:Nat):Prop where
 calm:∃T,Calm p n (1+i/room) q T∧∀k,k<1+i/room→T k=runT rs room k
 b:w.b=⟨n,W,0,false⟩
 rows:w.rows=i
 n:w.n=i%room
 wait:w.wait=cj ((rs.drop (i/room*room)).take (i%room))
 last:0<i→w.last=rs.getD (i - 1) []
 le:i≤rs.length
 next:0≤p.next∧p.next≤2+i
 most:p.most=8∨8≤p.most
theorem yW {i room:Nat} (hr:1≤room):(i%room+1<room∧(i+1)/room=i/room∧(i+1)%room=i%room+1)∨(i%room+1=room∧(i+1)/room=i/room+1∧(i+1)%room=0):=by
 have h1:=Nat.mod_lt i hr
 have h2:=Nat.div_add_mod i room
 rcases Nat.lt_or_ge (i%room+1) room with h|h
 ·left
  have e:i+1=room*(i/room)+(i%room+1):=by omega
  refine⟨h,?_,?_⟩
  ·rw[e,Nat.mul_add_div hr,Nat.div_eq_of_lt h];simp
  ·rw[e,Nat.mul_add_mod,Nat.mod_eq_of_lt h]
 ·right
  have e:i+1=room*(i/room+1):=by rw[Nat.mul_add];omega
  refine⟨by omega,?_,?_⟩
  ·rw[e,Nat.mul_div_cancel_left _ hr]
  ·rw[e,Nat.mul_mod_right]
section
variable {p:Pl} {w:RW} {n:ByteArray} {W:Nat} {rs:List (List Int)} {q i:Nat}
theorem iz.ready {room:Nat} (h:iz p w n W room rs q i):w.b.ready=0:=by rw[h.b];rfl
theorem iz.add (h:iz p w n W (bB W) rs q i) (h1:0≤W) (h2:W≤16) (hr:gH W rs) (hi:i<rs.length) (hs:n.size≤9223372036854775807) (hq:q≤1048576) (hbig:rs.length≤1000000):
  (1+(i+1)/(bB W)≤q→(w.add p (rs.getD i [])).2.2=0∧iz (w.add p (rs.getD i [])).1 (w.add p (rs.getD i [])).2.1 n W (bB W) rs q (i+1))∧
  (q<1+(i+1)/(bB W)→1+i/(bB W)≤q→(w.add p (rs.getD i [])).2.2=5):=by
 obtain⟨r1,r2,r3,r4⟩:=bE h1 h2
 generalize hroom:bB W=room at*
 obtain⟨T,c1,c2⟩:=h.calm
 have hmem:rs.getD i []∈rs:=by
  rw[List.getD,List.getElem?_eq_getElem hi];exact List.getElem_mem hi
 have hlen:=hr.len _ hmem
 have hup:0<i→0<bt (rs.getD i []) w.last:=fun h0=>by
  rw[h.last h0,wW]
  have:=hr.up (i - 1) (by omega)
  rwa [Nat.sub_add_cancel h0] at this
 have e:w.add p (rs.getD i [])=if i%room+1<room then (p,w.push (rs.getD i []),0) else (w.push (rs.getD i [])).out p:=by
  unfold RW.add
  rw[if_neg (by rw[h.ready];simp),if_neg (by rw[h.b,hlen];simp),if_neg (by
   rintro⟨a,b⟩
   rw[h.rows] at a
   have:=hup a
   omega),h.b,h.n]
  simp only[r1]
  by_cases hc:i%room+1<room
  ·rw[if_pos hc,if_pos (by omega)]
  ·rw[if_neg hc,if_neg (by omega)]
 have hwait:(w.push (rs.getD i [])).wait=cj ((rs.drop (i/room*room)).take (i%room+1)):=by
  have hd:=Nat.div_add_mod i room
  have hmc:room*(i/room)=i/room*room:=Nat.mul_comm _ _
  show w.wait++uX (rs.getD i [])=_
  rw[h.wait]
  have hx:(rs.drop (i/room*room))[i%room]?=some (rs.getD i []):=by
   rw[List.getElem?_drop]
   have:i/room*room+i%room=i:=by omega
   rw[this,List.getD,List.getElem?_eq_getElem hi];rfl
  have ht:(rs.drop (i/room*room)).take (i%room+1)=(rs.drop (i/room*room)).take (i%room)++[rs.getD i []]:=by
   rw[List.take_add_one,hx];rfl
  rw[ht]
  unfold cj
  rw[List.flatMap_append];simp
 have hbase:(w.push (rs.getD i [])).b=⟨n,W,0,false⟩:=h.b
 rcases yW (i:=i) (room:=room) (by omega) with ⟨m1,m2,m3⟩|⟨m1,m2,m3⟩
 ·rw[e,if_pos m1]
  refine⟨fun _=>⟨rfl,⟨T,by rw[m2];exact⟨c1,c2⟩⟩,hbase,?_,?_,?_,fun _=>rfl,by omega,?_,h.most⟩,fun a b=>by omega⟩
  ·show w.rows+1=_;rw[h.rows]
  ·show w.n+1=_;rw[h.n,m3]
  ·rw[hwait,m2,m3]
  ·have:=h.next;show 0≤p.next∧p.next≤2+((i+1:Nat):Int);omega
 ·rw[e,if_neg (by omega)]
  have hpg:cj ((rs.drop (i/room*room)).take (i%room+1))=cj (bO rs room (i/room)):=by rw[m1];rfl
  have hbl:(cj (bO rs room (i/room))).length≤504:=by
   rw[fW h1 (L:=bO rs room (i/room)) (fun l hl=>hr.len l (List.mem_of_mem_drop (List.mem_of_mem_take (show l∈(rs.drop _).take _ from hl))))]
   have:(bO rs room (i/room)).length≤room:=List.length_take_le _ _
   calc _≤room*uN W:=Nat.mul_le_mul_right _ this
    _≤504:=r3
  have eo:(w.push (rs.getD i [])).out p=((p.more n 1 (cj (bO rs room (i/room)))).1,{w.push (rs.getD i []) with b:=(w.push (rs.getD i [])).b.bV (p.more n 1 (cj (bO rs room (i/room)))).2,wait:=[],n:=0},(p.more n 1 (cj (bO rs room (i/room)))).2):=by
   unfold RW.out
   rw[if_neg (by show w.n+1≠0;omega),hbase,hwait,hpg]
  rw[eo]
  refine⟨fun hq1=>?_,fun a b=>?_⟩
  ·obtain⟨a1,a2,a3,a4⟩:=c1.more (k:=1) (b:=cj (bO rs room (i/room))) (by omega) hq hs h.next.1 (by have:=h.next.2;omega) hbl
   rw[if_neg (by decide)] at a2
   have hcalm:∃T,Calm (p.more n 1 (cj (bO rs room (i/room)))).1 n (1+(i+1)/room) q T∧∀k,k<1+(i+1)/room→T k=runT rs room k:=by
    rw[m2]
    refine⟨_,a2,fun k hk=>?_⟩
    by_cases ek:k=1+i/room
    ·subst ek
     rw[dD,Nat.add_comm 1];rfl
    ·rw[cN ek];exact c2 k (by omega)
   have hnx:=h.next
   refine⟨a1,⟨hcalm,?_,?_,m3.symm,?_,fun _=>rfl,by omega,?_,?_⟩⟩
   ·show (w.push (rs.getD i [])).b.bV _=_
    rw[a1,hbase];rfl
   ·show w.rows+1=_;rw[h.rows]
   ·show []=_;rw[m3];simp[cj]
   ·rw[a3];omega
   ·rw[a4];exact h.most
  ·exact c1.mH (by omega)
end
theorem kT {α:Type} {l:List α} {i:Nat} {u:α→α} {x:α} (h:x∈l.modify i u):(∃y,l[i]?=some y∧x=u y)∨x∈l:=by
 obtain⟨j,hj⟩:=List.getElem?_of_mem h
 rw[List.getElem?_modify] at hj
 obtain⟨y,h1,h2⟩:=Option.map_eq_some_iff.1 hj
 by_cases q:i=j
 ·rw[if_pos q] at h2
  exact .inl ⟨y,q▸h1,h2.symm⟩
 ·rw[if_neg q] at h2
  exact .inr (h2▸List.mem_of_getElem? h1)
def Dk.AllP (Ψ:List UInt8→Prop) (s:Dk):Prop:=∀f∈s.files,∀pg∈f.ao,Ψ pg.1
section
variable {Ψ:List UInt8→Prop} {s:Dk}
theorem Af {l:List Pg} {w:Wr} (hw:w.page≤l.length) {x:Pg} (hx:x∈cY l w):x∈l∨x=w.b:=by
 unfold cY at hx
 rcases Nat.lt_or_ge w.page l.length with h|h
 ·have e:w.page+1 - l.length=0:=by omega
  rw[e,List.replicate_zero,List.append_nil] at hx
  exact List.mem_or_eq_of_mem_set hx
 ·have e:w.page+1 - l.length=1:=by omega
  rw[e] at hx
  have e2:w.page=l.length:=by omega
  rw[e2,List.set_append_right _ _ (Nat.le_refl _),Nat.sub_self] at hx
  simpa using hx
theorem Dk.AllP.zj {t:Dk} (h:s.AllP Ψ) (e:t.files=s.files):t.AllP Ψ:=fun f hf=>h f (e▸hf)
theorem Dk.AllP.step {g:Dk→Dk} (h:s.AllP Ψ) (hg:∀t:Dk,t.files=s.files→(g t).AllP Ψ):(s.step g).1.AllP Ψ:=by
 unfold Dk.step
 split
 ·exact hg _ s.aX
 ·exact h.zj s.aX
theorem Dk.AllP.create (h:s.AllP Ψ) (n:ByteArray):(s.create n).1.AllP Ψ:=by
 unfold Dk.create
 split
 ·exact h
 split
 ·exact h
 split
 ·exact h
 split
 ·exact h
 refine h.step fun t ht f hf=>?_
 simp only at hf
 rw[ht] at hf
 rcases List.mem_append.1 hf with q|q
 ·exact h f q
 ·rw[List.mem_singleton.1 q]
  intro pg hp
  exact absurd hp (by simp[Fl.ao])
theorem Dk.nZ {i:Nat} {n:ByteArray} (h:s.idx n=some i):s.files[i]?=some (s.file i):=by
 obtain⟨f,h1,_⟩:=jo h
 rw[h1];simp[Dk.file,List.getD,h1]
theorem Dk.AllP.write (h:s.AllP Ψ) {n:ByteArray} {g:Int} {b:List UInt8} (hb:Ψ b):(s.write n g b).1.AllP Ψ:=by
 unfold Dk.write
 split
 ·exact h
 split
 ·rename_i hl
  split
  ·exact h
  ·rename_i i hi
   split
   ·exact h
   ·rename_i hg
    split
    ·exact h
    refine h.step fun t ht f hf=>?_
    have hfi:=s.nZ hi
    have e:((t.dZ i ⟨t.next,g.toNat,⟨b,hl⟩⟩).fw (max t.most (t.dZ i ⟨t.next,g.toNat,⟨b,hl⟩⟩).used)).files=s.files.modify i (fun f=>{f with log:=f.log++[⟨t.next,g.toNat,⟨b,hl⟩⟩]}):=by
     show t.files.modify i _=_
     rw[ht]
    rw[e] at hf
    rcases kT hf with ⟨y,hy,he⟩|q
    ·have hy':y=s.file i:=Option.some.inj (hy.symm.trans hfi)
     subst hy'
     subst he
     intro pg hp
     have e2:Fl.ao {s.file i with log:=(s.file i).log++[⟨t.next,g.toNat,⟨b,hl⟩⟩]}=cY (s.file i).ao ⟨t.next,g.toNat,⟨b,hl⟩⟩:=by
      unfold Fl.ao;rw[List.foldl_append];rfl
     rw[e2] at hp
     rcases Af (by show g.toNat≤_;omega) hp with u|u
     ·exact h _ (List.mem_of_getElem? hfi) pg u
     ·rw[u];exact hb
    ·exact h f q
 ·exact h
theorem Dk.AllP.sync (h:s.AllP Ψ) (n:ByteArray):(s.sync n).1.AllP Ψ:=by
 unfold Dk.sync
 split
 ·exact h
 split
 ·exact h
 ·rename_i i hi
  refine h.step fun t ht f hf=>?_
  have e:(t.wu i fun f=>{f with synced:=f.ao,log:=[]}).files=s.files.modify i (fun f=>{f with synced:=f.ao,log:=[]}):=by
   show t.files.modify i _=_
   rw[ht]
  rw[e] at hf
  rcases kT hf with ⟨y,hy,he⟩|q
  ·have hy':y=s.file i:=Option.some.inj (hy.symm.trans (s.nZ hi))
   subst hy'
   subst he
   exact fun pg hp=>h (s.file i) (List.mem_of_getElem? (s.nZ hi)) pg hp
  ·exact h f q
theorem Dk.AllP.read (h:s.AllP Ψ) {n:ByteArray} {g:Int} (e:(s.read n g).2=0):Ψ (s.read n g).1:=by
 have ho:∀i,(s.open n).1=some i→s.idx n=some i:=fun i q=>by
  unfold Dk.open at q
  split at q
  ·cases q
  ·split at q
   ·rename_i j hj;cases q;exact hj
   ·cases q
 have hz:(s.open n).1=none→(s.open n).2≠0:=fun q=>by
  unfold Dk.open at q ⊢
  split
  ·decide
  ·rename_i w;rw[if_neg w] at q
   split
   ·rename_i j hj;rw[hj] at q;cases q
   ·decide
 unfold Dk.read at e ⊢
 revert ho hz
 generalize s.open n=o at e ⊢
 intro ho hz
 obtain⟨o,x⟩:=o
 cases o with
 |none=>exact absurd e (hz rfl)
 |some i=>
   have hi:=s.nZ (ho i rfl)
   simp only at e ⊢
   split
   ·rename_i q;rw[if_pos q] at e;exact absurd e (by decide)
   ·rename_i q
    rw[if_neg q] at e
    split
    ·rename_i pg hp;exact h _ (List.mem_of_getElem? hi) pg (List.mem_of_getElem? hp)
    ·rename_i hp;rw[hp] at e;exact absurd e (by decide)
end
def Dk.Has (n:ByteArray) (s:Dk):Prop:=s.down=true∨(s.idx n).isSome=true
theorem Dk.kO {s:Dk} {n:ByteArray}:(s.idx n).isSome=true↔∃f∈s.files,f.name.toList=n.toList:=by
 unfold Dk.idx
 rw[List.findIdx?_isSome,List.any_eq_true]
 simp
theorem Dk.tI {n:ByteArray} {s:Dk} {g:Dk→Dk} (h:∃f∈s.files,f.name.toList=n.toList) (hd:s.down=false) (hg:∀t:Dk,t.files=s.files→∀f∈s.files,∃f'∈(g t).files,f'.name=f.name):(s.step g).1.Has n:=by
 have hc:=Dk.uK hd
 unfold Dk.step
 by_cases q:s.change.2=0
 ·rw[if_pos q]
  obtain⟨f,hf,he⟩:=h
  obtain⟨f',hf',he'⟩:=hg _ s.aX f hf
  exact .inr (Dk.kO.2 ⟨f',hf',by rw[he'];exact he⟩)
 ·rw[if_neg q]
  exact .inl (by rw[hc];simpa using q)
theorem Dk.Has.up {n:ByteArray} {s:Dk} (h:s.Has n) (hd:¬s.down=true):∃f∈s.files,f.name.toList=n.toList:=Dk.kO.1 (h.resolve_left hd)
theorem lP {l t:List Fl} {i:Nat} {u:Fl→Fl} (hu:∀f,(u f).name=f.name) (e:t=l.modify i u):∀f∈l,∃f'∈t,f'.name=f.name:=fun f hf=>by
 obtain⟨j,hj⟩:=List.getElem?_of_mem hf
 subst e
 refine⟨if i=j then u f else f,List.mem_of_getElem? (i:=j) ?_,?_⟩
 ·rw[List.getElem?_modify,hj];rfl
 ·split
  ·exact hu f
  ·rfl
theorem Dk.Has.write {n:ByteArray} {s:Dk} (h:s.Has n) (m:ByteArray) (g:Int) (b:List UInt8):(s.write m g b).1.Has n:=by
 unfold Dk.write
 split
 ·exact h
 rename_i hd
 split
 ·split
  ·exact h
  ·rename_i i hi
   split
   ·exact h
   ·split
    ·exact h
    refine Dk.tI (h.up hd) (by simpa using hd) fun t ht=>?_
    exact lP (i:=i) (u:=fun f=>{f with log:=f.log++[⟨t.next,g.toNat,⟨b,by assumption⟩⟩]}) (fun f=>rfl) (by show t.files.modify i _=_;rw[ht])
 ·exact h
theorem Dk.Has.sync {n:ByteArray} {s:Dk} (h:s.Has n) (m:ByteArray):(s.sync m).1.Has n:=by
 unfold Dk.sync
 split
 ·exact h
 rename_i hd
 split
 ·exact h
 ·rename_i i hi
  refine Dk.tI (h.up hd) (by simpa using hd) fun t ht=>?_
  exact lP (i:=i) (u:=fun f=>{f with synced:=f.ao,log:=[]}) (fun f=>rfl) (by show t.files.modify i _=_;rw[ht])
theorem Dk.Has.create {n:ByteArray} {s:Dk} (e:(s.create n).2=0):(s.create n).1.Has n:=by
 unfold Dk.create at e ⊢
 by_cases hd:s.down=true
 ·rw[if_pos hd] at e;exact absurd e (by simp)
 rw[if_neg hd] at e ⊢
 by_cases h2:named n=false
 ·rw[if_pos h2] at e;exact absurd e (by simp)
 rw[if_neg h2] at e ⊢
 by_cases h3:(s.idx n).isSome=true
 ·rw[if_pos h3] at e;exact absurd e (by simp)
 rw[if_neg h3] at e ⊢
 by_cases h4:s.files.length=4096
 ·rw[if_pos h4] at e;exact absurd e (by simp)
 rw[if_neg h4] at e ⊢
 unfold Dk.step at e ⊢
 by_cases q:s.change.2=0
 ·rw[if_pos q]
  exact .inr (Dk.kO.2 ⟨⟨n,[],[]⟩,by simp,rfl⟩)
 ·rw[if_neg q] at e;exact absurd e q
theorem Dk.Has.yf {n:ByteArray} {s:Dk} (h:s.Has n):(s.create n).2≠0:=by
 unfold Dk.create
 split
 ·simp
 ·rename_i hd
  split
  ·simp
  ·rw[if_pos (h.resolve_left hd)];simp
structure zq (D:Dk→Prop) (Ψ:List UInt8→Prop):Prop where
 write:∀{s:Dk} {n:ByteArray} {g:Int} {b:List UInt8},D s→Ψ b→D (s.write n g b).1
 sync:∀{s:Dk} (n:ByteArray),D s→D (s.sync n).1
 read:∀{s:Dk} {n:ByteArray} {g:Int},D s→(s.read n g).2=0→Ψ (s.read n g).1
theorem Dk.Ax (Ψ:List UInt8→Prop):zq (Dk.AllP Ψ) Ψ:=⟨fun h hb=>h.write hb,fun n h=>h.sync n,fun h e=>h.read e⟩
theorem Dk.sZ (Ψ:List UInt8→Prop) (n:ByteArray):zq (fun s=>s.AllP Ψ∧s.Has n) Ψ:=
 ⟨fun h hb=>⟨h.1.write hb,h.2.write ..⟩,fun n h=>⟨h.1.sync n,h.2.sync n⟩,fun h e=>h.1.read e⟩
def rT (Φ:UInt8→List UInt8→Prop) (pg:List UInt8):Prop:=∀k b,dG pg=some (k,b)→Φ k b
theorem rT.Gg {Φ:UInt8→List UInt8→Prop} {k:UInt8} {b:List UInt8} (h:Φ k b) (hl:b.length≤504):rT Φ (bp k b):=fun k' b' e=>by
 rw[jJ hl] at e
 cases e;exact h
structure Pl.AllP (Φ:UInt8→List UInt8→Prop) (D:Dk→Prop) (s:Pl):Prop where
 fs:∀f∈s.fs,Φ f.kind f.b
 bc:D s.d
section
variable {Φ:UInt8→List UInt8→Prop} {D:Dk→Prop} {s:Pl}
theorem Pl.AllP.frame (h:s.AllP Φ D) (h0:Φ 0 []) (i:Nat):Φ (s.frame i).kind (s.frame i).b:=by
 unfold Pl.frame
 cases e:s.fs[i]? with
 |none=>simp[List.getD,e];exact h0
 |some f=>simp[List.getD,e];exact h.fs f (List.mem_of_getElem? e)
theorem Pl.AllP.aV (h:s.AllP Φ D) {d:Dk} (hd:D d):(s.aV d).AllP Φ D:=⟨h.fs,hd⟩
theorem Pl.AllP.met (h:s.AllP Φ D) (e:Int):(s.met e).AllP Φ D:=by
 unfold Pl.met;split
 ·exact⟨h.fs,h.bc⟩
 ·exact h
theorem Pl.AllP.out {r:Pl×Int} (h:r.1.AllP Φ D):(Pl.out r).1.AllP Φ D:=h.met r.2
theorem Pl.AllP.aZ (h:s.AllP Φ D) (i:Nat) {u:Fr→Fr} (hu:∀f,Φ f.kind f.b→Φ (u f).kind (u f).b):(s.aZ i u).AllP Φ D:=by
 refine⟨fun f hf=>?_,h.bc⟩
 rcases kT hf with ⟨y,q,e⟩|q
 ·rw[e];exact hu y (h.fs y (List.mem_of_getElem? q))
 ·exact h.fs f q
theorem Pl.AllP.drop (h:s.AllP Φ D) (i:Nat):(s.drop i).AllP Φ D:=⟨fun f hf=>h.fs f (List.mem_of_mem_eraseIdx hf),h.bc⟩
structure Fits (Φ:UInt8→List UInt8→Prop) (D:Dk→Prop):Prop where
 zero:Φ 0 []
 room:∀k b,Φ k b→b.length≤504
 law:zq D (rT Φ)
theorem Pl.AllP.put (h:s.AllP Φ D) (hf:Fits Φ D) (i:Nat):(s.put i).1.AllP Φ D:=by
 have hs:rT Φ (s.frame i).cV:=rT.Gg (h.frame hf.zero i) (hf.room _ _ (h.frame hf.zero i))
 have hd:=hf.law.write (n:=(s.frame i).name) (g:=(s.frame i).page) h.bc hs
 unfold Pl.put
 split
 ·exact(h.aV hd).aZ i fun f q=>q
 ·exact h.aV hd
theorem Pl.AllP.room (h:s.AllP Φ D) (hf:Fits Φ D):s.room.1.AllP Φ D:=by
 unfold Pl.room
 split
 ·exact h
 split
 ·exact h
 ·rename_i i _
  split
  ·split
   ·exact(h.put hf i).drop i
   ·exact h.put hf i
  ·exact h.drop i
theorem Pl.AllP.dh (h:s.AllP Φ D) (i:Nat):(s.dh i).AllP Φ D:=by
 have:=h.aZ i (u:=Fr.aQ s.next) fun f q=>q
 exact⟨this.fs,this.bc⟩
theorem Pl.AllP.take (h:s.AllP Φ D) {f:Fr} (hf:Φ f.kind f.b):(s.take f).AllP Φ D:=by
 show ((s.add f).dh s.fs.length).AllP Φ D
 refine Pl.AllP.dh (s:=s.add f) ⟨fun g hg=>?_,h.bc⟩ _
 rcases List.mem_append.1 hg with q|q
 ·exact h.fs g q
 ·rw[List.mem_singleton.1 q];exact hf
theorem Pl.AllP.load (h:s.AllP Φ D) (hf:Fits Φ D) (n:ByteArray) (g:Int):(s.load n g).1.AllP Φ D∧∀f,(s.load n g).2.1=some f→Φ f.kind f.b:=by
 unfold Pl.load
 split
 ·exact⟨h,fun f q=>by cases q⟩
 split
 ·exact⟨h,fun f q=>by cases q⟩
 split
 ·exact⟨h.room hf,fun f q=>by cases q⟩
 split
 ·exact⟨h.room hf,fun f q=>by cases q⟩
 ·rename_i hr
  have hp:=hf.law.read (h.room hf).bc (Decidable.of_not_not hr)
  split
  ·exact⟨h.room hf,fun f q=>by cases q⟩
  ·rename_i k b ho
   exact⟨h.room hf,fun f q=>by cases q;exact hp k b ho⟩
theorem Pl.AllP.aQ (h:s.AllP Φ D) (hf:Fits Φ D) (n:ByteArray) (g:Int):(s.aQ n g).1.AllP Φ D:=by
 unfold Pl.aQ
 split
 ·exact h
 split
 ·exact h.dh _
 ·obtain⟨h1,h2⟩:=h.load hf n g
  split
  ·rename_i q f e heq
   rw[heq] at h1 h2
   exact h1.take (h2 f rfl)
  ·rename_i q e heq
   rw[heq] at h1
   exact h1.met _
theorem Pl.AllP.fresh (h:s.AllP Φ D) (hf:Fits Φ D) (n:ByteArray):(s.fresh n).1.AllP Φ D:=by
 have hr:=h.room hf
 have hd:=hf.law.write (n:=n) (g:=((s.d.len n).1:Int)) hr.bc (rT.Gg hf.zero (by simp))
 unfold Pl.fresh
 split
 ·exact h
 split
 ·exact h.met _
 split
 ·exact hr.met _
 split
 ·exact(hr.aV hd).met _
 ·exact(hr.aV hd).take hf.zero
theorem Pl.AllP.set (h:s.AllP Φ D) (x:Int) {k:UInt8} {b:List UInt8} (hb:b.length≤504→Φ k b):(s.set x k b).1.AllP Φ D:=by
 unfold Pl.set
 split
 ·exact h
 split
 ·split
  ·exact h
  ·rename_i hl
   exact h.aZ _ fun f _=>hb (by omega)
 ·exact h
theorem Pl.AllP.aD (h:s.AllP Φ D) (x:Int):(s.aD x).1.AllP Φ D:=by
 unfold Pl.aD
 split
 ·exact h
 split
 ·rename_i i _
  have:=h.aZ i (u:=Fr.aD x (cR (s.tick+1))) fun f q=>q
  exact⟨this.fs,this.bc⟩
 ·exact h
theorem Pl.AllP.aA (hf:Fits Φ D) (n:ByteArray):∀(l:List Nat) {s:Pl},s.AllP Φ D→(Pl.aA n l s).1.AllP Φ D
 |[],_,h=>h
 |k::l,s,h=>by
   unfold Pl.aA
   split
   ·rename_i i _
    split
    ·split
     ·exact aA hf n l (h.put hf i)
     ·exact h.put hf i
    ·exact aA hf n l h
   ·exact aA hf n l h
theorem Pl.AllP.flush (h:s.AllP Φ D) (hf:Fits Φ D) (n:ByteArray):(s.flush n).1.AllP Φ D:=by
 unfold Pl.flush
 split
 ·exact h
 split
 ·exact Pl.AllP.out h
 have hl:=Pl.AllP.aA hf n (s.aO n) h
 split
 ·exact Pl.AllP.out hl
 ·exact Pl.AllP.out (hl.aV (hf.law.sync n hl.bc))
theorem Pl.AllP.leave {r:Pl×Int} (h:r.1.AllP Φ D) (x:Int):(Pl.leave r x).1.AllP Φ D:=by
 unfold Pl.leave;split
 ·exact h.aD x
 ·exact h
theorem Pl.AllP.more (h:s.AllP Φ D) (hf:Fits Φ D) (n:ByteArray) {k:UInt8} {b:List UInt8} (hb:k=0∨(b.length≤504→Φ k b)):(s.more n k b).1.AllP Φ D:=by
 unfold Pl.more
 split
 ·exact h.fresh hf n
 ·refine Pl.AllP.leave ?_ _
  split
  ·exact h.fresh hf n
  ·rename_i hk
   exact(h.fresh hf n).set _ (hb.resolve_left hk)
theorem Pl.AllP.GW (h:s.AllP Φ D) (x:Int) (e:(s.get x).2.2=0):Φ (s.get x).1 (s.get x).2.1:=by
 unfold Pl.get at e ⊢
 split
 ·rename_i q;rw[if_pos q] at e;exact absurd e q
 ·rename_i q
  rw[if_neg q] at e
  cases hi:s.held x with
  |none=>simp[hi] at e
  |some i=>
    simp only
    obtain⟨f,hf,_⟩:=Pl.dU hi
    rw[Pl.cJ hf]
    exact h.fs f (List.mem_of_getElem? hf)
theorem Pl.AllP.look (h:s.AllP Φ D) (hf:Fits Φ D) (n:ByteArray) (g:Int):(s.look n g).1.AllP Φ D∧((s.look n g).2.2.2=0→Φ (s.look n g).2.1 (s.look n g).2.2.1):=by
 have hp:=h.aQ hf n g
 unfold Pl.look
 split
 ·rename_i q;exact⟨hp,fun e=>absurd e q⟩
 split
 ·rename_i q;exact⟨hp,fun e=>absurd e q⟩
 ·rename_i q
  exact⟨hp.aD _,fun _=>hp.GW _ (Decidable.of_not_not q)⟩
theorem Pl.AllP.pl0 {d:Dk} {m:Nat} (h:D d):(pl0 d m).AllP Φ D:=⟨fun f hf=>(by cases hf),h⟩
end
structure sM (p:Pl) (n:ByteArray) (W room:Nat) (rs:List (List Int)) (q:Nat):Prop where
 calm:∃T,Calm p n (1+av rs.length room) q T∧T 0=(2,bJ W rs.length)∧∀k,k<av rs.length room→T (k+1)=(1,cj (bO rs room k))
theorem vX {n room:Nat} (hr:1≤room):(n%room=0→av n room=n/room)∧(n%room≠0→av n room=n/room+1):=by
 have h1:=Nat.mod_lt n hr
 have h2:=Nat.div_add_mod n room
 unfold av
 refine⟨fun h=>?_,fun h=>?_⟩
 ·have e:n+room - 1=room*(n/room)+(room - 1):=by omega
  rw[e,Nat.mul_add_div hr,Nat.div_eq_of_lt (show room - 1<room by omega)];rfl
 ·have e:n+room - 1=room*(n/room+1)+(n%room - 1):=by rw[Nat.mul_add];omega
  rw[e,Nat.mul_add_div hr,Nat.div_eq_of_lt (show n%room - 1<room by omega)]
section
variable {p:Pl} {w:RW} {n:ByteArray} {W:Nat} {rs:List (List Int)} {q:Nat}
theorem tv (h1:0≤W) (hr:gH W rs) (r3:bB W*uN W≤504) (k:Nat):(cj (bO rs (bB W) k)).length≤504:=by
 rw[fW h1 (L:=bO rs (bB W) k) (fun l hl=>hr.len l (List.mem_of_mem_drop (List.mem_of_mem_take (show l∈(rs.drop _).take _ from hl))))]
 have:(bO rs (bB W) k).length≤bB W:=List.length_take_le _ _
 calc _≤bB W*uN W:=Nat.mul_le_mul_right _ this
  _≤504:=r3
theorem iz.close (h:iz p w n W (bB W) rs q rs.length) (h1:0≤W) (h2:W≤16) (hr:gH W rs) (hs:n.size≤9223372036854775807) (hq:q≤1048576) (hbig:rs.length≤1000000):
  (1+av rs.length (bB W)≤q→(w.close p).2.2=(rs.length,0)∧sM (w.close p).1 n W (bB W) rs q∧(w.close p).1.next≤4+rs.length∧
   (∃f,(w.close p).1.d.files=[f]∧f.name=n∧f.log=[]∧f.synced.length=1+av rs.length (bB W)∧∀(k:Nat) (b:Pg),f.synced[k]?=some b→dG b.1=some (if k=0 then (2,bJ W rs.length) else (1,cj (bO rs (bB W) (k - 1))))))∧
  (q<1+av rs.length (bB W)→1+rs.length/(bB W)≤q→(w.close p).2.2.2=5):=by
 obtain⟨r1,r2,r3,r4⟩:=bE h1 h2
 have pb:=tv h1 hr r3
 generalize hroom:bB W=room at*
 obtain⟨T,c1,c2⟩:=h.calm
 obtain⟨d1,d2⟩:=vX (n:=rs.length) (room:=room) (by omega)
 have hnx:=h.next
 have hm:=Nat.mod_lt rs.length (show 0<room by omega)
 have hdm:=Nat.div_add_mod rs.length room
 -- the rows that wait are put
 have out:(1+av rs.length room≤q→(w.out p).2.2=0∧(w.out p).2.1.b=⟨n,W,0,false⟩∧(w.out p).2.1.rows=rs.length∧0≤(w.out p).1.next∧(w.out p).1.next≤3+rs.length∧
   ∃T,Calm (w.out p).1 n (1+av rs.length room) q T∧∀k,k<1+av rs.length room→T k=runT rs room k)∧(q<1+av rs.length room→1+rs.length/room≤q→(w.out p).2.2=5):=by
  unfold RW.out
  by_cases hz:w.n=0
  ·rw[if_pos hz]
   rw[h.n] at hz
   rw[d1 hz]
   exact⟨fun _=>⟨rfl,h.b,h.rows,hnx.1,by show p.next≤_;omega,T,c1,c2⟩,fun a b=>by omega⟩
  ·rw[if_neg hz]
   rw[h.n] at hz
   rw[d2 hz]
   have hw:w.wait=cj (bO rs room (rs.length/room)):=by
    rw[h.wait]
    unfold bO
    congr 1
    have hmc:room*(rs.length/room)=rs.length/room*room:=Nat.mul_comm _ _
    rw[List.take_of_length_le (i:=room) (by rw[List.length_drop];omega),List.take_of_length_le (by rw[List.length_drop];omega)]
   rw[hw,h.b]
   simp only
   refine⟨fun hq1=>?_,fun a b=>c1.mH (by omega)⟩
   obtain⟨a1,a2,a3,a4⟩:=c1.more (k:=1) (b:=cj (bO rs room (rs.length/room))) (by omega) hq hs hnx.1 (by omega) (pb _)
   rw[if_neg (by decide)] at a2
   refine⟨a1,?_,h.rows,by rw[a3];omega,by rw[a3];omega,_,a2,fun k hk=>?_⟩
   ·rw[a1];rfl
   ·by_cases ek:k=1+rs.length/room
    ·subst ek
     rw[dD,Nat.add_comm 1];rfl
    ·rw[cN ek];exact c2 k (by omega)
 have hrdy:¬w.b.ready≠0:=by rw[h.ready];simp
 refine⟨fun hq1=>?_,fun a b=>?_⟩
 ·obtain⟨o1,o2,o3,o4,o5,T',o6,o7⟩:=out.1 hq1
  have e:w.close p=(w.out p).2.1.ends (w.out p).1:=by
   unfold RW.close
   rw[if_neg hrdy,if_neg (by rw[o1];simp)]
  rw[e]
  have hhb:(bJ W rs.length).length≤504:=by simp[bJ,bS,cu]
  obtain⟨t1,t2,t3,t4,t5⟩:=o6.aZ hq hs o4 (by omega) (k:=0) (by omega) hq1 (kd:=2) (b:=bJ W rs.length) hhb
  obtain⟨f1,f2,f3,f,f4,f5,f6,f7,f8⟩:=t3.flush
  have eh:(w.out p).2.1.head (w.out p).1=(Pl.leave (((w.out p).1.aQ n 0).1.set (w.out p).1.next 2 (bJ W rs.length)) (w.out p).1.next).1.flush n:=by
   unfold RW.head
   rw[o2,o3]
   simp only
   have t1':((w.out p).1.aQ n 0).2=((w.out p).1.next,0):=t1
   rw[t1']
   simp only
   have t2':(Pl.leave (((w.out p).1.aQ n 0).1.set (w.out p).1.next 2 (bJ W rs.length)) (w.out p).1.next).2=0:=t2
   rw[if_neg (by simp),if_neg (by rw[t2'];simp)]
  have ee:(w.out p).2.1.ends (w.out p).1=(((w.out p).2.1.head (w.out p).1).1,(w.out p).2.1.stop,(w.out p).2.1.rows,0):=by
   unfold RW.ends
   rw[if_neg (by rw[eh];have:=f1;simpa using this)]
  rw[ee,eh,o3]
  have hT:∀k,k<1+av rs.length room→na T' 0 (2,bJ W rs.length) k=if k=0 then (2,bJ W rs.length) else (1,cj (bO rs room (k - 1))):=by
   intro k hk
   by_cases q0:k=0
   ·subst q0;rw[dD,if_pos rfl]
   ·rw[cN q0,o7 k hk,if_neg q0]
    obtain⟨m,rfl⟩:∃m,k=m+1:=⟨k - 1,by omega⟩
    rfl
  refine⟨rfl,⟨_,f2,?_,fun k hk=>?_⟩,?_,f,f4,f5,f6,f7,fun k b hk=>?_⟩
  ·rw[hT 0 (by omega),if_pos rfl]
  ·rw[hT (k+1) (by omega),if_neg (by omega)];rfl
  ·have:=(Pl.leave (((w.out p).1.aQ n 0).1.set (w.out p).1.next 2 (bJ W rs.length)) (w.out p).1.next).1.kN n
   have t4':(Pl.leave (((w.out p).1.aQ n 0).1.set (w.out p).1.next 2 (bJ W rs.length)) (w.out p).1.next).1.next=(w.out p).1.next+1:=t4
   show ((Pl.leave (((w.out p).1.aQ n 0).1.set (w.out p).1.next 2 (bJ W rs.length)) (w.out p).1.next).1.flush n).1.next≤_
   rw[this,t4'];omega
  ·rw[f8 k b hk]
   have hkl:k<1+av rs.length room:=by rw[←f7];exact(List.getElem?_eq_some_iff.1 hk).1
   rw[hT k hkl]
 ·unfold RW.close
  have:=out.2 a b
  rw[if_neg hrdy,if_pos (by rw[this];simp)]
  exact this
end
structure nP (r:RR) (n:ByteArray) (W room:Nat) (rs:List (List Int)):Prop where
 b:r.b=⟨n,W,0,false⟩
 rows:r.rows=rs.length
 at_:r.at_≤rs.length
 page:∀j,r.page=some j→j<av rs.length room∧r.ins=bO rs room j
 cols:∀l∈r.ins,l.length≤16
theorem ic {rs:List (List Int)} {room j:Nat}:(bO rs room j).length=min room (rs.length - j*room):=by
 unfold bO;rw[List.length_take,List.length_drop]
theorem ig {rs:List (List Int)} {room j i:Nat} (hi:i<room):(bO rs room j).getD i []=rs.getD (j*room+i) []:=by
 unfold bO
 simp only[List.getD]
 rw[List.getElem?_take,if_pos hi,List.getElem?_drop]
section
variable {p:Pl} {r:RR} {n:ByteArray} {W:Nat} {rs:List (List Int)} {q:Nat}
theorem nP.room (h:nP r n W (bB W) rs) (h1:0≤W) (h2:W≤16):r.b.room=bB W:=by
 unfold Rb.room
 rw[h.b]
 simp only
 rw[(bE h1 h2).1];rfl
theorem sM.load (h:sM p n W (bB W) rs q) (hd:nP r n W (bB W) rs) (h1:0≤W) (h2:W≤16) (hr:gH W rs) (hs:n.size≤9223372036854775807) (hq:q≤1048576) (hqN:1+av rs.length (bB W)≤q)
  (h0:0≤p.next) (hnx:p.next<1099511627776) {j:Nat} (hj:j<av rs.length (bB W)):
  (r.load p j).2.2=0∧sM (r.load p j).1 n W (bB W) rs q∧nP (r.load p j).2.1 n W (bB W) rs∧(r.load p j).2.1.ins=bO rs (bB W) j∧(r.load p j).2.1.at_=r.at_∧p.next≤(r.load p j).1.next∧(r.load p j).1.next≤p.next+1:=by
 have hrm:=hd.room h1 h2
 obtain⟨r1,r2,r3,r4⟩:=bE h1 h2
 generalize bB W=room at*
 unfold RR.load
 by_cases hp:r.page=some j
 ·rw[if_pos hp]
  exact⟨rfl,h,hd,(hd.page j hp).2,rfl,Int.le_refl _,by show p.next≤p.next+1;omega⟩
 rw[if_neg hp]
 obtain⟨T,c1,c2,c3⟩:=h.calm
 obtain⟨l1,l2,l3,l4⟩:=c1.look (k:=j+1) hq hs h0 hnx (by omega) hqN
 have e1:((j+1:Nat):Int)=(j:Int)+1:=by omega
 rw[e1,c3 j hj] at l1
 rw[e1] at l2 l3
 rw[hd.b]
 simp only
 rw[l1]
 simp only
 have hsub:∀l∈bO rs room j,l∈rs:=fun l hl=>List.mem_of_mem_drop (List.mem_of_mem_take (show l∈(rs.drop _).take _ from hl))
 obtain⟨g1,g2⟩:=kI h2 (fun l hl=>hr.len l (hsub l hl)) (fun l hl=>hr.fit l (hsub l hl))
 rw[←mW] at g1 g2
 have hok:da (di (cj (bO rs room j))) W=true:=by
  unfold kq at g2
  cases e:da (di (cj (bO rs room j))) W with
  |true=>rfl
  |false=>rw[e] at g2;simp at g2
 have hfit:r.fits j 1 (cj (bO rs room j))=true:=by
  unfold RR.fits
  rw[hd.b,hd.rows]
  simp only
  rw[hok,g1,ic]
  have:Rb.room ⟨n,W,0,false⟩=room:=by rw[←hd.b];exact hrm
  rw[this];simp
 rw[if_neg (by simp),if_pos hfit]
 refine⟨rfl,⟨T,l2,c2,c3⟩,⟨rfl,hd.rows,hd.at_,fun i hi=>?_,rm⟩,g1,rfl,?_,?_⟩
 ·simp only at hi;cases hi
  exact⟨hj,g1⟩
 ·rw[l3];omega
 ·rw[l3];exact Int.le_refl _
theorem sM.next (h:sM p n W (bB W) rs q) (hd:nP r n W (bB W) rs) (h1:0≤W) (h2:W≤16) (hr:gH W rs) (hs:n.size≤9223372036854775807) (hq:q≤1048576) (hqN:1+av rs.length (bB W)≤q)
  (h0:0≤p.next) (hnx:p.next<1099511627776):
  (r.at_<rs.length→(r.next p).2.2=(rs.getD r.at_ [],true,0)∧sM (r.next p).1 n W (bB W) rs q∧nP (r.next p).2.1 n W (bB W) rs∧(r.next p).2.1.at_=r.at_+1∧p.next≤(r.next p).1.next∧(r.next p).1.next≤p.next+1)∧
  (r.at_=rs.length→r.next p=(p,r,[],false,0)):=by
 have hrdy:¬r.b.ready≠0:=by rw[hd.b];simp[Rb.ready]
 have hrm:=hd.room h1 h2
 refine⟨fun ha=>?_,fun ha=>?_⟩
 ·have hr3:=(bE h1 h2).2.1
  have hpj:r.at_/(bB W)<av rs.length (bB W):=by
   unfold av
   rw[Nat.lt_iff_add_one_le,Nat.le_div_iff_mul_le (by omega),Nat.add_mul]
   have:=Nat.div_mul_le_self r.at_ (bB W)
   omega
  obtain⟨l1,l2,l3,l4,l5,l6,l7⟩:=h.load hd h1 h2 hr hs hq hqN h0 hnx hpj
  unfold RR.next
  rw[if_neg hrdy,if_neg (by rw[hd.rows];omega),hrm,if_neg (by rw[l1];simp)]
  simp only
  have hm:=Nat.mod_lt r.at_ (show 0<bB W by omega)
  have hdm:=Nat.div_add_mod r.at_ (bB W)
  have hmc:(bB W)*(r.at_/(bB W))=r.at_/(bB W)*(bB W):=Nat.mul_comm _ _
  have hat:r.at_/(bB W)*(bB W)+r.at_%(bB W)=r.at_:=by omega
  have eg:(r.load p (r.at_/(bB W))).2.1.ins.getD (r.at_%(bB W)) []=rs.getD r.at_ []:=by rw[l4,ig hm,hat]
  rw[eg]
  exact⟨by first|trivial|rfl,l2,⟨l3.b,l3.rows,by show r.at_+1≤_;omega,l3.page,l3.cols⟩,by first|trivial|rfl,l6,l7⟩
 ·unfold RR.next
  rw[if_neg hrdy,if_pos (by rw[hd.rows];exact ha)]
theorem gH.mono (hr:gH W rs):∀{i j:Nat},i<j→j<rs.length→bt (rs.getD i []) (rs.getD j [])<0
 |i,0,h,_=>by omega
 |i,j+1,h,hj=>by
   rcases Nat.lt_or_ge i j with q|q
   ·exact kL (hr.mono q (by omega)) (hr.up j hj)
   ·have:i=j:=by omega
    subst this;exact hr.up i hj
theorem gH.down (hr:gH W rs) (ll:List Int):Down ll rs:=fun i j hij hj h=>by
 rcases Nat.lt_or_ge i j with q|q
 ·exact kL (hr.mono q hj) h
 ·have:i=j:=by omega
  subst this;exact h
theorem pF (ll:List Int) (ls:List (List Int)):below ll ls≤ls.length:=(List.takeWhile_sublist _).length_le
theorem kj {ll:List Int}:∀{ls:List (List Int)},Down ll ls→∀{i:Nat},i<ls.length→(bt (ls.getD i []) ll<0↔i<below ll ls)
 |[],_,i,h=>by simp at h
 |a::ls,hd,i,h=>by
   have hd':Down ll ls:=fun x y h1 h2 h3=>hd (x+1) (y+1) (by omega) (by simpa using h2) h3
   unfold below
   rw[List.takeWhile_cons]
   by_cases ha:bt a ll<0
   ·rw[if_pos (by simpa using ha),List.length_cons]
    cases i with
    |zero=>exact⟨fun _=>by omega,fun _=>ha⟩
    |succ i=>
      have:=kj (ll:=ll) (ls:=ls) hd' (i:=i) (by simpa using h)
      unfold below at this
      show bt (ls.getD i []) ll<0↔_
      rw[this];omega
   ·rw[if_neg (by simpa using ha)]
    refine⟨fun q=>absurd (hd 0 i (Nat.zero_le _) h q) ha,fun q=>by simp at q⟩
def dJ (ll:List Int) (rs:List (List Int)) (room:Nat):Nat:=if below ll rs=rs.length then av rs.length room else below ll rs/room
theorem Be (hr:gH W rs) (ll:List Int) {room j:Nat} (h3:1≤room) (hj:j<av rs.length room):bt (jh (bO rs room j)) ll<0↔j<dJ ll rs room:=by
 have hjl:=fY h3 hj
 have hlen:=ic (rs:=rs) (room:=room) (j:=j)
 have e:jh (bO rs room j)=rs.getD (j*room+((bO rs room j).length - 1)) []:=by
  unfold jh;exact ig (by omega)
 rw[e,kj (hr.down ll) (by omega)]
 unfold dJ
 have hle:=pF ll rs
 split
 ·rename_i hb
  rw[hb];omega
 ·rename_i hb
  rw[←Nat.add_one_le_iff (n:=j),Nat.le_div_iff_mul_le h3,Nat.add_mul]
  omega
theorem sM.cw (h1:0≤W) (h2:W≤16) (hr:gH W rs) (hs:n.size≤9223372036854775807) (hq:q≤1048576) (hqN:1+av rs.length (bB W)≤q) (ll:List Int):∀(f i j:Nat) (p:Pl) (r:RR),sM p n W (bB W) rs q→nP r n W (bB W) rs→0≤p.next→p.next+f<1099511627776→
  i≤dJ ll rs (bB W)→dJ ll rs (bB W)≤j→j≤av rs.length (bB W)→j - i≤f→
  (RR.cw ll f i j p r).2.2=(dJ ll rs (bB W),0)∧sM (RR.cw ll f i j p r).1 n W (bB W) rs q∧nP (RR.cw ll f i j p r).2.1 n W (bB W) rs∧p.next≤(RR.cw ll f i j p r).1.next∧(RR.cw ll f i j p r).1.next≤p.next+f
 |0,i,j,p,r,hp,hd,h0,hnx,hi,hj,hjN,hf=>by
   have:i=dJ ll rs (bB W):=by omega
   unfold RR.cw
   exact⟨by rw[←this],hp,hd,Int.le_refl _,by show p.next≤p.next+0;omega⟩
 |f+1,i,j,p,r,hp,hd,h0,hnx,hi,hj,hjN,hf=>by
   have hr3:=(bE h1 h2).2.1
   unfold RR.cw
   by_cases hlt:i<j
   ·rw[if_pos hlt]
    have hm:(i+j)/2<av rs.length (bB W):=by omega
    obtain⟨l1,l2,l3,l4,l5,l6,l7⟩:=hp.load hd h1 h2 hr hs hq hqN h0 (by omega) hm
    have hl:=Be hr ll (room:=bB W) (by omega) hm
    rw[if_neg (by rw[l1];simp),l4]
    by_cases hc:bt (jh (bO rs (bB W) ((i+j)/2))) ll<0
    ·rw[if_pos hc]
     have:=hl.1 hc
     obtain⟨a1,a2,a3,a4,a5⟩:=sM.cw h1 h2 hr hs hq hqN ll f ((i+j)/2+1) j (r.load p ((i+j)/2)).1 (r.load p ((i+j)/2)).2.1 l2 l3 (by omega) (by omega) (by omega) hj hjN (by omega)
     exact⟨a1,a2,a3,by omega,by omega⟩
    ·rw[if_neg hc]
     have:¬(i+j)/2<dJ ll rs (bB W):=fun q=>hc (hl.2 q)
     obtain⟨a1,a2,a3,a4,a5⟩:=sM.cw h1 h2 hr hs hq hqN ll f i ((i+j)/2) (r.load p ((i+j)/2)).1 (r.load p ((i+j)/2)).2.1 l2 l3 (by omega) (by omega) hi (by omega) (by omega) (by omega)
     exact⟨a1,a2,a3,by omega,by omega⟩
   ·rw[if_neg hlt]
    have:i=dJ ll rs (bB W):=by omega
    exact⟨by rw[←this],hp,hd,Int.le_refl _,by show p.next≤p.next+((f+1:Nat):Int);omega⟩
theorem sM.bL (h:sM p n W (bB W) rs q) (hd:nP r n W (bB W) rs) (h1:0≤W) (h2:W≤16) (hr:gH W rs) (hs:n.size≤9223372036854775807) (hq:q≤1048576) (hqN:1+av rs.length (bB W)≤q)
  (h0:0≤p.next) (hnx:p.next+rs.length<1099511600000) {ll:List Int} (hll:ll.length≤W):
  (r.bL p ll).2.2=0∧sM (r.bL p ll).1 n W (bB W) rs q∧nP (r.bL p ll).2.1 n W (bB W) rs∧(r.bL p ll).2.1.at_=below ll rs∧p.next≤(r.bL p ll).1.next∧(r.bL p ll).1.next≤p.next+rs.length+1∧
  (r.find p ll).2.2=(dJ ll rs (bB W),0)∧p.next≤(r.find p ll).1.next∧(r.find p ll).1.next≤p.next+rs.length∧(dJ ll rs (bB W)≠av rs.length (bB W)→Down ll ((r.find p ll).2.1.load (r.find p ll).1 (r.find p ll).2.2.1).2.1.ins):=by
 have hrdy:¬r.b.ready≠0:=by rw[hd.b];simp[Rb.ready]
 have hrm:=hd.room h1 h2
 have hr3:=(bE h1 h2).2.1
 have hble:=pF ll rs
 have hNle:=cS (n:=rs.length) (show 0<bB W by omega)
 have hpt:dJ ll rs (bB W)≤av rs.length (bB W):=by
  unfold dJ
  split
  ·exact Nat.le_refl _
  ·rename_i hb
   unfold av
   exact Nat.div_le_div_right (by omega)
 have ef:r.find p ll=RR.cw ll (av rs.length (bB W)) 0 (av rs.length (bB W)) p r:=by
  unfold RR.find;rw[hrm,hd.rows]
 obtain⟨s1,s2,s3,s4,s5⟩:=sM.cw h1 h2 hr hs hq hqN ll (av rs.length (bB W)) 0 (av rs.length (bB W)) p r h hd h0 (by omega) (Nat.zero_le _) hpt (Nat.le_refl _) (by omega)
 rw[←ef] at s1 s2 s3 s4 s5
 have e:r.bL p ll=(r.find p ll).2.1.goto (r.find p ll).1 ll (dJ ll rs (bB W)):=by
  unfold RR.bL
  rw[if_neg hrdy,if_neg (by rw[hd.b];simp only;omega),s1,if_neg (by simp)]
 rw[e,s1]
 have hroom:=s3.room h1 h2
 generalize (r.find p ll).1=p3 at*
 generalize (r.find p ll).2.1=r3 at*
 have hdn:∀j,Down ll (bO rs (bB W) j):=fun j x y hxy hy hc=>by
  rw[ic] at hy
  rw[ig (by omega)] at hc ⊢
  exact hr.down ll _ _ (by omega) (by omega) hc
 unfold RR.goto
 rw[s3.rows,hroom]
 by_cases hb:below ll rs=rs.length
 ·have ept:dJ ll rs (bB W)=av rs.length (bB W):=if_pos hb
  rw[if_pos ept]
  exact⟨rfl,s2,⟨s3.b,rfl,Nat.le_refl _,s3.page,s3.cols⟩,hb.symm,s4,by show p3.next≤_;omega,rfl,s4,by omega,fun q=>absurd ept q⟩
 ·have ept:dJ ll rs (bB W)=below ll rs/(bB W):=if_neg hb
  have hltB:below ll rs<rs.length:=by omega
  have hlt:dJ ll rs (bB W)<av rs.length (bB W):=by
   rw[ept]
   unfold av
   rw[Nat.lt_iff_add_one_le,Nat.le_div_iff_mul_le (by omega),Nat.add_mul]
   have:=Nat.div_mul_le_self (below ll rs) (bB W)
   omega
  rw[if_neg (by omega)]
  obtain⟨l1,l2,l3,l4,l5,l6,l7⟩:=s2.load s3 h1 h2 hr hs hq hqN (by omega) (by omega) hlt
  rw[if_neg (by rw[l1];simp)]
  have hbl:dJ ll rs (bB W)*(bB W)+below ll (bO rs (bB W) (dJ ll rs (bB W)))=below ll rs:=by
   have hm:=Nat.mod_lt (below ll rs) (show 0<bB W by omega)
   have hdm:=Nat.div_add_mod (below ll rs) (bB W)
   have hmc:(bB W)*(below ll rs/(bB W))=below ll rs/(bB W)*(bB W):=Nat.mul_comm _ _
   have:below ll (bO rs (bB W) (dJ ll rs (bB W)))=below ll rs%(bB W):=by
    rw[ept]
    refine jv (by rw[ic];omega) (fun x hx=>?_) (fun hx=>?_)
    ·rw[ig (by omega),kj (hr.down ll) (by omega)];omega
    ·rw[ig hm,kj (hr.down ll) (by omega)];omega
   rw[this,ept];omega
  rw[l4,hbl]
  refine⟨rfl,l2,⟨l3.b,l3.rows,by show below ll rs≤_;omega,l3.page,l3.cols⟩,rfl,?_,?_,rfl,s4,by omega,fun _=>hdn _⟩
  ·show p.next≤(r3.load p3 (dJ ll rs (bB W))).1.next;omega
  ·show (r3.load p3 (dJ ll rs (bB W))).1.next≤_;omega
end
open Go.MapKept
section
variable {s:Pl} {w:RW}
theorem Pl.wQ (r:Pl×Int) (h:Int):(Pl.leave r h).1.d=r.1.d:=by
 unfold Pl.leave;split
 ·exact Pl.nV _ _
 ·rfl
theorem Pl.vu (r:Pl×Int) (h:Int):(Pl.leave r h).1.next=r.1.next:=by
 unfold Pl.leave;split
 ·exact Pl.iZ _ _
 ·rfl
theorem Pl.nq (n:ByteArray) (k:UInt8) (b:List UInt8) (h0:0≤s.next) (h1:s.next<1099511627776):(s.more n k b).1.d.logs≤s.d.logs+2∧(s.more n k b).1.next≤s.next+1:=by
 have a:=s.oN n
 have c:=s.iE (n:=n) h0 h1
 unfold Pl.more
 split
 ·exact⟨a,c⟩
 ·rw[Pl.wQ,Pl.vu]
  split
  ·exact⟨a,c⟩
  ·rw[Pl.Bg,Pl.gv];exact⟨a,c⟩
theorem RW.oW (h0:0≤s.next) (h1:s.next<1099511627776):(w.out s).1.d.logs≤s.d.logs+2∧(w.out s).1.next≤s.next+1:=by
 have:=Pl.nq (s:=s) w.b.name 1 w.wait h0 h1
 unfold RW.out
 split
 ·exact⟨by show s.d.logs≤_;omega,by show s.next≤_;omega⟩
 ·exact this
theorem RW.py {l:List Int} (h0:0≤s.next) (h1:s.next<1099511627776):(w.add s l).1.d.logs≤s.d.logs+2∧(w.add s l).1.next≤s.next+1:=by
 have:=RW.oW (w:=w.push l) h0 h1
 unfold RW.add
 split
 ·exact⟨by show s.d.logs≤_;omega,by show s.next≤_;omega⟩
 ·split
  ·exact⟨by show s.d.logs≤_;omega,by show s.next≤_;omega⟩
  ·split
   ·exact⟨by show s.d.logs≤_;omega,by show s.next≤_;omega⟩
   ·split
    ·exact⟨by show s.d.logs≤_;omega,by show s.next≤_;omega⟩
    ·exact this
theorem qe {n:ByteArray} {W:Int} (h0:0≤s.next) (h1:s.next<1099511627776):(aH s n W).1.d.logs≤s.d.logs+2∧(aH s n W).1.next≤s.next+1:=by
 have a:=s.d.gL n
 have b:=Pl.nq (s:=s.aV (s.d.create n).1) n 0 [] h0 h1
 have e1:(s.aV (s.d.create n).1).d.logs=(s.d.create n).1.logs:=rfl
 have e2:(s.aV (s.d.create n).1).next=s.next:=rfl
 rw[e1,e2] at b
 unfold aH
 split
 ·exact⟨by show s.d.logs≤_;omega,by show s.next≤_;omega⟩
 ·split
  ·exact⟨by show (s.d.create n).1.logs≤_;omega,by show s.next≤_;omega⟩
  ·split
   ·exact⟨by have:=b.1;simp only;omega,b.2⟩
   ·exact⟨by have:=b.1;simp only;omega,b.2⟩
end
def TW (H A:Heap) (k p dp:Nat) (s:Pl) (w:RW):Prop:=Ext H A∧∃F sw sl,aE F A p dp s∧nb A k p w sw sl∧(∀b,F b→¬ez k sw sl b)∧(∀b,F b→H.size≤b)∧∀b,ez k sw sl b→H.size≤b
section
variable {H A:Heap} {k p dp:Nat} {s:Pl} {w:RW} {n:ByteArray} {W:Int}
theorem TW.ae (t:TW H A k p dp s w):TP H A p dp s:=by
 obtain⟨h1,F,sw,sl,h2,h3,h4,h5,h6⟩:=t
 exact⟨h1,F,h2,h5⟩
theorem TP.make {K:(Option Addr×Int)→Heap→Prop} {o:Option RW} {e:Int} (t:TP H A p dp s) (hg:Gl H) (hn:n.size≤9223372036854775807) (hlogs:s.d.logs<68719470000) (hnx:s.next<1099511627776) (h0:0≤s.next) (hfit:s.Fit)
  (hr:(aH s n W).2=(o,e)) (hK0:o=none→∀B,TP H B p dp (aH s n W).1→K (none,e) B) (hK1:∀w,o=some w→∀k B,TW H B k p dp (aH s n W).1 w→K (ay k,e) B):Bv.sp (ay p) n W A K:=by
 have hgA:=t.gl hg
 obtain⟨h1,F,h2,h3⟩:=t
 have z:=h1.size
 refine sU hgA h2 hn hlogs hnx h0 hfit (fun F' B q1 S q2=>?_) (fun F' B k w q1 S q2 q3 q4 q5=>?_)
 ·rw[hr] at q2 ⊢
  refine hK0 q2 B ⟨⟨by have:=S.mod.size;omega,fun b hb _=>(S.mod.same b (by omega) fun q=>by have:=h3 b q;omega).trans (h1.same b hb id)⟩,F',q1,fun b hb=>?_⟩
  rcases S.own b hb with q|q
  ·exact h3 b q
  ·omega
 ·rw[hr] at q2 ⊢
  refine hK1 w q2 k B ⟨⟨by have:=S.mod.size;omega,fun b hb _=>(S.mod.same b (by omega) fun q=>by have:=h3 b q;omega).trans (h1.same b hb id)⟩,F',gy,gy,q1,q3,?_,fun b hb=>?_,?_⟩
  ·rintro b hb (q|q|q)
   ·exact q5 (q▸hb)
   ·exact cF b q
   ·exact cF b q
  ·rcases S.own b hb with q|q
   ·exact h3 b q
   ·omega
  ·rintro b (q|q|q)
   ·omega
   ·exact absurd q (cF b)
   ·exact absurd q (cF b)
theorem TW.go {A0 B:Heap} {F F':Nat→Prop} {sw sl sw' sl':Sl} {s':Pl} {w':RW} (h1:Ext H A0) (e0:Ext A0 A) (h5:∀b,F b→H.size≤b) (h6:∀b,ez k sw sl b→H.size≤b)
  (S:Step (fun b=>F b∨ez k sw sl b) (fun b=>F' b∨ez k sw' sl' b) A B) (q1:aE F' B p dp s') (q2:nb B k p w' sw' sl') (q3:∀b,F' b→¬ez k sw' sl' b):TW H B k p dp s' w':=by
 have z0:=h1.size
 have z1:=e0.size
 have z2:=S.mod.size
 have own:∀b,F' b∨ez k sw' sl' b→H.size≤b:=fun b hb=>by
  rcases S.own b hb with (q|q)|q
  ·exact h5 b q
  ·exact h6 b q
  ·omega
 refine⟨⟨by omega,fun b hb _=>(S.mod.same b (by omega) fun q=>?_).trans ((e0.same b (by omega) id).trans (h1.same b hb id))⟩,F',sw',sl',q1,q2,q3,fun b hb=>own b (.inl hb),fun b hb=>own b (.inr hb)⟩
 rcases q with q|q
 ·have:=h5 b q;omega
 ·have:=h6 b q;omega
theorem TW.add {A0:Heap} {l:Sl} {ll:List Int} {e:Int} {K:Int→Heap→Prop} (t:TW H A0 k p dp s w) (e0:Ext A0 A) (hg:Gl H) (hl:Ints .u64 A l ll) (hp:∀ad,l.a=some ad→A0.size≤ad.block∨ad.block<H.size)
  (hlen:ll.length≤1000000) (hwl:w.wait.length≤1000000) (hwr:w.rows<1099511627776) (hwn:w.n<1099511627776) (hn:w.b.name.size≤9223372036854775807) (hlogs:s.d.logs<68719470000) (hnx:s.next<1099511627776) (hfit:s.Fit)
  (hr:(w.add s ll).2.2=e) (hK:∀B,TW H B k p dp (w.add s ll).1 (w.add s ll).2.1→K e B):wB.sp (ay k) l A K:=by
 obtain⟨h1,F,sw,sl,h2,h3,h4,h5,h6⟩:=t
 have hgl:=hg.lt
 have z0:=h1.size
 have z1:=e0.size
 subst hr
 refine Cp ((hg.mod h1 id).mod e0 id) (fun q=>by have:=h6 _ q;omega) (h3.mod e0 fun _ _=>id) (h2.ext e0) h4 hl (fun ad ha q=>?_) hlen hwl hwr hwn hn hlogs hnx (by have:=h2.wf.tick;omega) hfit fun F' sw' sl' B q1 q2 q3 S=>?_
 ·have:=h6 _ q
  have:=h3.lt _ q
  rcases hp ad ha with u|u<;>omega
 ·exact hK B (TW.go h1 e0 h5 h6 S q1 q2 q3)
theorem TW.close {e:Int} {K:(Int×Int)→Heap→Prop} (t:TW H A k p dp s w) (hg:Gl H) (hwr:w.rows<1099511627776) (hwd:0≤w.b.width) (hn:w.b.name.size≤9223372036854775807) (hlogs:s.d.logs<68719400000) (hnx:s.next<1099511600000) (hfit:s.Fit)
  {m:Nat} (hr:(w.close s).2.2=(m,e)) (hK:∀B,TW H B k p dp (w.close s).1 (w.close s).2.1→K ((m:Int),e) B):Ay.sp (ay k) A K:=by
 obtain⟨h1,F,sw,sl,h2,h3,h4,h5,h6⟩:=t
 have hgl:=hg.lt
 have h0:0≤s.next:=by have:=h2.wf.tick;omega
 have ob:=RW.oW (s:=s) (w:=w) h0 (by omega)
 refine qT (hg.mod h1 id) (fun q=>by have:=h6 _ q;omega) h3 h2 h4 hwr hwd hn (by omega) (by omega) h0 hfit (by omega) (by omega) (fun x hd=>?_) fun F' sw' B q1 q2 q3 S=>?_
 ·rw[Pl.wQ,Pl.Bg]
  have:=(w.out s).1.lZ w.b.name 0
  omega
 ·rw[hr]
  exact hK B (TW.go h1 (.refl _ _) h5 h6 S q1 q2 q3)
def TR (H A:Heap) (X:Nat→Prop) (k p dp:Nat) (s:Pl) (r:RR):Prop:=
 H.size≤k∧∃F si rs,cO H (fun b=>H.size≤b) (fun b=>H.size≤b) k p dp si rs F A s r∧∀b,X b→¬F b∧¬gV k si rs b∧b<A.size
variable {X:Nat→Prop} {r:RR}
theorem TR.at (t:TR H A X k p dp s r):Ext H A:=by
 obtain⟨h0,F,si,rs,h1,_⟩:=t
 exact h1.mod.ext fun b hb=>by rcases hb with q|q<;>omega
theorem TR.gl (t:TR H A X k p dp s r) (hg:Gl H):Gl A:=hg.mod t.at id
theorem TR.ext {B:Heap} (t:TR H A X k p dp s r) (e:Ext A B):TR H B X k p dp s r:=by
 obtain⟨h0,F,si,rs,h1,h2⟩:=t
 exact⟨h0,F,si,rs,h1.ext e,fun b hb=>⟨(h2 b hb).1,(h2 b hb).2.1,Nat.lt_of_lt_of_le (h2 b hb).2.2 e.size⟩⟩
theorem TR.ae (t:TR H A X k p dp s r):TP H A p dp s:=by
 have e:=t.at
 obtain⟨h0,F,si,rs,h1,h2⟩:=t
 exact⟨e,F,h1.ae,fun b hb=>(h1.own b hb).elim id id⟩
theorem TR.goes {B:Heap} {F F':Nat→Prop} {si si':Sl} {rs rs':List Sl} {s':Pl} {r':RR} (h0:H.size≤k) (h1:cO H (fun b=>H.size≤b) (fun b=>H.size≤b) k p dp si rs F A s r) (h2:∀b,X b→¬F b∧¬gV k si rs b∧b<A.size)
  (g:cO A F (gV k si rs) k p dp si' rs' F' B s' r'):TR H B X k p dp s' r'∧∀b,X b→B[b]?=A[b]?:=by
 refine⟨⟨h0,F',si',rs',h1.trans g,fun b hb=>?_⟩,fun b hb=>?_⟩
 ·obtain⟨x1,x2,x3⟩:=h2 b hb
  refine⟨fun q=>?_,fun q=>?_,Nat.lt_of_lt_of_le x3 g.mod.size⟩
  ·rcases g.own b q with u|u
   ·exact x1 u
   ·omega
  ·rcases g.own2 b q with u|u
   ·exact x2 u
   ·omega
 ·obtain⟨x1,x2,x3⟩:=h2 b hb
  refine g.mod.same b x3 fun q=>?_
  rcases q with q|q
  ·exact x1 q
  ·exact x2 (.inl q)
theorem TP.open {K:(Option Addr×Int)→Heap→Prop} {o:Option RR} {e:Int} (t:TP H A p dp s) (hg:Gl H) (hn:n.size≤9223372036854775807) (hlogs:s.d.logs<68719470000) (hnx:s.next<1099511627776) (hlen:((s.look n 0).1.d.len n).1<4611686018427387904)
  (hr:(rnOpen s n W).2=(o,e)) (hK0:o=none→∀B,TP H B p dp (rnOpen s n W).1→K (none,e) B) (hK1:∀r,o=some r→∀k B,TR H B (fun _=>False) k p dp (rnOpen s n W).1 r→K (ay k,e) B):BM.sp (ay p) n W A K:=by
 have hgA:=t.gl hg
 obtain⟨h1,F,h2,h3⟩:=t
 have z:=h1.size
 refine tD hgA h2 hn hlogs hnx (by have:=h2.wf.tick;omega) (fun F' B q1 S q2=>?_) (fun F' B k r q1 S q2 q3 q4 q5=>?_)
 ·rw[hr] at q2 ⊢
  refine hK0 q2 B ⟨⟨by have:=S.mod.size;omega,fun b hb _=>(S.mod.same b (by omega) fun q=>by have:=h3 b q;omega).trans (h1.same b hb id)⟩,F',q1,fun b hb=>?_⟩
  rcases S.own b hb with q|q
  ·exact h3 b q
  ·omega
 ·rw[hr] at q2 ⊢
  have own:∀b,F' b→H.size≤b:=fun b hb=>by
   rcases S.own b hb with q|q
   ·exact h3 b q
   ·omega
  have rdk:∀b,gV k gy [] b→b=k:=by
   rintro b (q|q|⟨x,hx,_⟩)
   ·exact q
   ·exact absurd q (cF b)
   ·cases hx
  refine hK1 r q2 k B ⟨by omega,F',gy,[],⟨q1,q3,fun b hb q=>q5 ((rdk b q)▸hb),⟨by have:=S.mod.size;omega,fun b hb hnb=>(S.mod.same b (by omega) fun q=>hnb (.inl (h3 b q))).trans (h1.same b hb id)⟩,fun b hb=>.inl (own b hb),fun b hb=>.inr (by rw[rdk b hb];omega)⟩,fun b hb=>hb.elim⟩
theorem TR.next {K:(Sl×Bool×Int)→Heap→Prop} {e:Int} {row:List Int} {ok:Bool} (t:TR H A X k p dp s r) (hg:Gl H) (hok:r.Ok) (hn:r.b.name.size≤9223372036854775807) (hlogs:s.d.logs<68719470000) (hnx:s.next<1099511627776)
  (hr:(r.next s).2.2=(row,ok,e)) (hK:∀l B,TR H B (fun b=>X b∨aj l b) k p dp (r.next s).1 (r.next s).2.1→Ints .u64 B l row→(∀b,X b→B[b]?=A[b]?)→K (l,ok,e) B):xV.sp (ay k) A K:=by
 have hgA:=t.gl hg
 obtain⟨h0,F,si,rs,h1,h2⟩:=t
 have hgl:=hg.lt
 refine tg hgA h1.ae.fG (by omega) h1.start hok hn hlogs hnx (by have:=h1.ae.wf.tick;omega) fun F' si' rs' B l g o f=>?_
 obtain⟨⟨w0,F2,si2,rs2,w1,w2⟩,w3⟩:=TR.goes h0 h1 h2 g
 rw[hr] at o ⊢
 refine hK l B ⟨h0,F',si',rs',h1.trans g,fun b hb=>?_⟩ o.ints w3
 rcases hb with q|q
 ·obtain⟨x1,x2,x3⟩:=h2 b q
  refine⟨fun q=>?_,fun q=>?_,Nat.lt_of_lt_of_le x3 g.mod.size⟩
  ·rcases g.own b q with u|u
   ·exact x1 u
   ·omega
  ·rcases g.own2 b q with u|u
   ·exact x2 u
   ·omega
 ·exact⟨(f b q).2.1,(f b q).2.2,o.lt b q⟩
theorem TR.bL {A0:Heap} {low:Sl} {ll:List Int} {K:Int→Heap→Prop} {e:Int} (t:TR H A0 X k p dp s r) (e0:Ext A0 A) (hg:Gl H) (hok:r.Ok) (hl:Ints .u64 A low ll) (hp:∀ad,low.a=some ad→A0.size≤ad.block∨ad.block<H.size) (hlow:ll.length≤1000000)
  (hn:r.b.name.size≤9223372036854775807) (hlogs:s.d.logs+528482304<68719460000) (hnx:s.next+528482304<1099511620000)
  (hfb:(r.find s ll).1.d.logs<68719470000∧(r.find s ll).1.next<1099511627776)
  (hdown:(r.find s ll).2.2.2=0→(r.find s ll).2.2.1≠av r.rows r.b.room→((r.find s ll).2.1.load (r.find s ll).1 (r.find s ll).2.2.1).2.2=0→Down ll ((r.find s ll).2.1.load (r.find s ll).1 (r.find s ll).2.2.1).2.1.ins)
  (hr:(r.bL s ll).2.2=e) (hK:∀B,TR H B X k p dp (r.bL s ll).1 (r.bL s ll).2.1→K e B):yN.sp (ay k) low A K:=by
 have t2:=t.ext e0
 have hgA:=t2.gl hg
 have z0:=t.at.size
 obtain⟨h0,F,si,rs,h1,h2⟩:=t
 have hgl:=hg.lt
 have h1':=h1.ext e0
 have h2':∀b,X b→¬F b∧¬gV k si rs b∧b<A.size:=fun b hb=>⟨(h2 b hb).1,(h2 b hb).2.1,Nat.lt_of_lt_of_le (h2 b hb).2.2 e0.size⟩
 have hF:∀b,F b→H.size≤b∧b<A0.size:=fun b hb=>⟨(h1.own b hb).elim id id,h1.ae.lt b hb⟩
 have hkk:k<A0.size:=az h1.rd.row
 subst hr
 refine zy hgA h1.ae.fG (by omega) h1'.start hok hl (fun ad ha _=>⟨fun q=>?_,fun q=>?_⟩) hlow hn hlogs hnx hfb hdown fun F' si' rs' B g=>?_
 ·have:=hF _ q;rcases hp ad ha with u|u<;>omega
 ·rcases hp ad ha with u|u<;>omega
 ·exact hK B (TR.goes h0 h1' h2' g).1
end
section
variable {H A:Heap} {d:Nat} {s:Dk} {n:ByteArray}
end
theorem Gf {q:Int} {n:ByteArray} (h0:0≤q) (hq:q≤1048576) (hn:named n=true):Calm (pl0 ((gk q).create n).1 8) n 0 q.toNat (fun _=>(0,[])):=
 ⟨⟨_,y8 (np h0 hq hn).1⟩,vN (by omega) (by omega),by intro f hf;cases hf⟩
theorem Dc {q:Int} {n:ByteArray} {W:Nat} {rs:List (List Int)} (h0:0≤q) (hq:q≤1048576) (hn:named n=true) (hs:n.size≤9223372036854775807) (h1:0≤W) (h2:W≤16):
  (1≤q→(aH (pl0 (gk q) 8) n W).2=(some (rl n W),0)∧iz (aH (pl0 (gk q) 8) n W).1 (rl n W) n W (bB W) rs q.toNat 0)∧(q=0→(aH (pl0 (gk q) 8) n W).2=(none,5)):=by
 obtain⟨r1,r2,r3,r4⟩:=bE h1 h2
 generalize bB W=room at*
 have hc:=np h0 hq hn
 have C:=Gf h0 hq hn
 have e:aH (pl0 (gk q) 8) n W=if ((pl0 ((gk q).create n).1 8).more n 0 []).2≠0 then (((pl0 ((gk q).create n).1 8).more n 0 []).1,none,((pl0 ((gk q).create n).1 8).more n 0 []).2) else (((pl0 ((gk q).create n).1 8).more n 0 []).1,some (rl n W),0):=by
  unfold aH
  rw[if_neg (by rw[r1];omega)]
  have:((pl0 (gk q) 8).d.create n).2=0:=hc.2.2.1
  rw[if_neg (by rw[this];simp)]
  rfl
 rw[e]
 refine⟨fun hq1=>?_,fun hq0=>?_⟩
 ·obtain⟨a1,a2,a3,a4⟩:=C.more (k:=0) (b:=[]) (by omega) (by omega) hs (by show (0:Int)≤1;omega) (by show (1:Int)<_;omega) (by simp)
  rw[if_neg (by rw[a1];simp)]
  rw[if_pos rfl] at a2
  have hmod:0%room=0:=Nat.zero_mod _
  have hdiv:0/room=0:=Nat.zero_div _
  refine⟨rfl,⟨⟨_,by rw[hdiv];exact a2,fun k hk=>?_⟩,rfl,rfl,hmod.symm,?_,fun q=>by omega,Nat.zero_le _,?_,.inl a4⟩⟩
  ·rw[hdiv] at hk
   have:k=0:=by omega
   subst this
   exact dD _ _ _
  ·show []=_
   rw[hmod];simp[cj]
  ·rw[a3];show (0:Int)≤1+1∧(1:Int)+1≤2+0;omega
 ·have a:=C.mH (k:=0) (b:=[]) (by omega)
  rw[if_pos (by rw[a];decide),a]
theorem yj {x:Int} (h:0≤x∧x<18446744073709551616):bH (di (cg (bS [x])))=x:=by
 rw[kV (fe _)]
 have h8:(bS [x]).length=8:=by simp[bS,cu]
 have a:=oR h8
 obtain⟨b,_⟩:=kI (L:=[[x]]) (w:=1) (by omega) (by simp) (fun l hl=>by simp at hl;subst hl;intro y hy;simp at hy;subst hy;exact h)
 have e:[[x]].flatMap bS=bS [x]:=by simp
 rw[e] at b
 have c:=a.symm.trans b
 simpa using c
def Ar (n:ByteArray) (W:Nat) (m:Nat):RR:=⟨⟨n,W,0,false⟩,m,0,none,[]⟩
theorem yo {p:Pl} {n:ByteArray} {W q:Nat} {rs:List (List Int)} (h:sM p n W (bB W) rs q) (h1:0≤W) (h2:W≤16) (hs:n.size≤9223372036854775807) (hq:q≤1048576) (hqN:1+av rs.length (bB W)≤q) (hbig:rs.length≤1000000)
  (h0:0≤p.next) (hnx:p.next<1099511627776):
  (rnOpen p n W).2=(some (Ar n W rs.length),0)∧sM (rnOpen p n W).1 n W (bB W) rs q∧nP (Ar n W rs.length) n W (bB W) rs∧(rnOpen p n W).1.next≤p.next+1∧p.next≤(rnOpen p n W).1.next∧((p.look n 0).1.d.len n).1<4611686018427387904∧(Ar n W rs.length).Ok:=by
 obtain⟨r1,r2,r3,r4⟩:=bE h1 h2
 generalize bB W=room at*
 obtain⟨T,c1,c2,c3⟩:=h.calm
 obtain⟨l1,l2,l3,l4⟩:=c1.look (k:=0) hq hs h0 hnx (by omega) hqN
 rw[c2] at l1
 have e0:((0:Nat):Int)=0:=rfl
 rw[e0] at l1 l2 l3
 have hl:=l2.len
 have hN:=cS (n:=rs.length) (show 0<room by omega)
 have hw:bH (di ((bJ W rs.length).drop 1))=(rs.length:Int):=yj (by omega)
 have hW:((bJ W rs.length).getD 0 0).toNat=W:=by
  show (UInt8.ofNat (W:Int).toNat).toNat=W
  rw[Int.toNat_natCast,UInt8.toNat_ofNat'];omega
 have h9:(bJ W rs.length).length=9:=by simp[bJ,bS,cu]
 have e:rnOpen p n W=((p.look n 0).1,some (Ar n W rs.length),0):=by
  unfold rnOpen
  rw[if_neg (by rw[r1];omega),l1,if_neg (by simp)]
  simp only
  rw[if_neg (fun q=>q ⟨by first|trivial|rfl,h9,by rw[hW]⟩),hl]
  simp only
  rw[if_neg (by simp),hw,if_pos ⟨by omega,by rw[r1,Int.toNat_natCast,Int.toNat_natCast]⟩]
  rfl
 rw[e]
 refine⟨rfl,⟨T,l2,c2,c3⟩,⟨rfl,rfl,Nat.zero_le _,fun j hj=>(by cases hj),fun l hl=>(by cases hl)⟩,by rw[l3];exact Int.le_refl _,by rw[l3];omega,by rw[hl];omega,(q8 (s:=p) (n:=n) (W:=W) (by rw[e])).1⟩
theorem Ints.FE {k:IntKind} {H H':Heap} {s:Sl} {l:List Int} (h:Ints k H s l) (e:∀ad,s.a=some ad→H'[ad.block]?=H[ad.block]?):Ints k H' s l:=
 ⟨h.len,fun i v hv=>by
  obtain⟨ad,ha,hc⟩:=h.reads i v hv
  exact⟨ad,ha,(du (by rw[cE];exact e ad ha)).trans hc⟩⟩
theorem Pl.rk (s:Pl) (n:ByteArray) (g:Int):(s.look n g).1.d.logs≤s.d.logs+1:=by
 have a:=s.lZ n g
 unfold Pl.look
 split
 ·exact a
 ·split
  ·exact a
  ·simp only
   rw[Pl.nV];exact a
theorem ui (s:Pl) (n:ByteArray) (W:Int):(rnOpen s n W).1.d.logs≤s.d.logs+1:=by
 have a:=s.rk n 0
 unfold rnOpen
 split
 ·exact Nat.le_succ _
 ·split
  ·exact a
  ·split
   ·exact a
   ·split
    ·exact a
    ·split<;>exact a
theorem RR.nh (r:RR) (s:Pl) (j:Nat):(r.load s j).1.d.logs≤s.d.logs+1:=by
 have:=s.rk r.b.name ((j:Int)+1)
 unfold RR.load
 split
 ·exact Nat.le_succ _
 ·split
  ·exact this
  ·split<;>exact this
theorem RR.yC (r:RR) (s:Pl):(r.next s).1.d.logs≤s.d.logs+1:=by
 have:=r.nh s (r.at_/r.b.room)
 unfold RR.next
 split
 ·exact Nat.le_succ _
 ·split
  ·exact Nat.le_succ _
  ·split<;>exact this
theorem RR.mI (ll:List Int):∀(f i j:Nat) (s:Pl) (r:RR),(RR.cw ll f i j s r).1.d.logs≤s.d.logs+f
 |0,_,_,_,_=>Nat.le_refl _
 |f+1,i,j,s,r=>by
   have:=r.nh s ((i+j)/2)
   unfold RR.cw
   split
   ·split
    ·simp only;omega
    ·split
     ·have a:=RR.mI ll f ((i+j)/2+1) j (r.load s ((i+j)/2)).1 (r.load s ((i+j)/2)).2.1;omega
     ·have a:=RR.mI ll f i ((i+j)/2) (r.load s ((i+j)/2)).1 (r.load s ((i+j)/2)).2.1;omega
   ·exact Nat.le_add_right _ _
theorem RR.qQ (r:RR) (s:Pl) (ll:List Int):(r.find s ll).1.d.logs≤s.d.logs+av r.rows r.b.room:=RR.mI ll _ _ _ s r
theorem RR.yh (r:RR) (s:Pl) (ll:List Int):(r.bL s ll).1.d.logs≤s.d.logs+av r.rows r.b.room+1:=by
 have a:=r.qQ s ll
 unfold RR.bL
 split
 ·simp only;omega
 ·split
  ·simp only;omega
  ·split
   ·simp only;omega
   ·have b:=(r.find s ll).2.1.nh (r.find s ll).1 (r.find s ll).2.2.1
    unfold RR.goto
    split
    ·simp only;omega
    ·split
     ·omega
     ·simp only;omega
def dI:List (List Int):=[[5],[7]]
theorem nf:gH 1 dI:=by
 refine⟨by decide,?_,?_⟩
 ·intro l hl x hx
  simp[dI] at hl
  rcases hl with rfl|rfl<;>(simp at hx;omega)
 ·intro i hi
  have:i=0:=by simp[dI] at hi;omega
  subst this;decide
theorem iz.again {p:Pl} {w:RW} {n:ByteArray} {W room:Nat} {rs:List (List Int)} {q i:Nat} (h:iz p w n W room rs q i) (hi:0<i) (hl:(rs.getD (i - 1) []).length=W):w.add p (rs.getD (i - 1) [])=(p,w,70):=by
 unfold RW.add
 rw[if_neg (by rw[h.ready];simp),if_neg (by rw[h.b,hl];simp),if_pos ⟨by rw[h.rows];exact hi,by rw[h.last hi,qz];exact Int.le_refl _⟩]
set_option maxHeartbeats 1000000 in
theorem ya {H:Heap} {K:Bool→Heap→Prop} (hg:Gl H) (hK:∀B,Ext H B→K true B):Ce.sp H K:=by
 refine Ce.of ?_
 unfold Ce.vc
 have hsz:nmF.size≤9223372036854775807:=by decide
 refine Av (by decide) fun F1 d H1 a1 e1 f1=>?_
 refine TP.new (m:=8) hg e1 a1 f1 (by decide) (by decide) fun p H2 t2=>?_
 obtain⟨m1,_⟩:=Dc (q:=9) (n:=nmF) (W:=1) (rs:=dI) (by decide) (by decide) yE hsz (by decide) (by decide)
 obtain⟨m2,m3⟩:=m1 (by decide)
 have mb:=qe (s:=pl0 (gk 9) 8) (n:=nmF) (W:=1) (by decide) (by decide)
 have z1:(pl0 (gk 9) 8).d.logs=0:=rfl
 have z2:(pl0 (gk 9) 8).next=1:=rfl
 rw[z1,z2] at mb
 refine TP.make (n:=nmF) (W:=1) t2 hg hsz (by rw[z1];decide) (by decide) (by decide) (fun f hf=>by cases hf) m2 (fun q=>by cases q) fun w q k H3 t3=>?_
 cases q
 refine ar rfl (ar rfl ?_)
 have m3':iz (aH (pl0 (gk 9) 8) nmF 1).1 (rl nmF 1) nmF 1 (bB 1) dI 9 0:=m3
 have t3':TW H H3 k p d (aH (pl0 (gk 9) 8) nmF 1).1 (rl nmF 1):=t3
 generalize (aH (pl0 (gk 9) 8) nmF 1).1=s3 at*
 have fits:∀{s:Pl} {w:RW} {i:Nat},iz s w nmF 1 (bB 1) dI 9 i→s.Fit∧0≤s.next:=fun h=>by
  obtain⟨T,c,_⟩:=h.calm
  exact⟨c.fit,h.next.1⟩
 -- the first row
 refine au fun H4 z4 r4 x4=>?_
 have A1:=(m3'.add (by decide) (by decide) nf (by decide) hsz (by decide) (by decide)).1 (by decide)
 have g1:dI.getD 0 []=[5]:=rfl
 rw[g1] at A1
 have b1:=RW.py (s:=s3) (w:=rl nmF 1) (l:=[5]) (fits m3').2 (by omega)
 refine TW.add t3' x4 hg (gD r4) (fun ad ha=>by cases ha;exact .inl (Nat.le_refl _)) (by simp) (by simp[rl]) (by simp[rl]) (by simp[rl]) hsz (by omega) (by omega) (fits m3').1 A1.1 fun H5 t5=>?_
 refine ar rfl ?_
 have A1':=A1.2
 generalize ((rl nmF 1).add s3 [5]).1=s5 at*
 generalize ((rl nmF 1).add s3 [5]).2.1=w5 at*
 -- the same again
 refine au fun H6 z6 r6 x6=>?_
 have e70:w5.add s5 [5]=(s5,w5,70):=A1'.again (by decide) (by decide)
 have w5b:=A1'.b
 refine TW.add t5 x6 hg (gD r6) (fun ad ha=>by cases ha;exact .inl (Nat.le_refl _)) (by simp) (by rw[A1'.wait];decide) (by rw[A1'.rows];decide) (by rw[A1'.n];decide) (by rw[w5b];exact hsz) (by omega) (by omega) (fits A1').1 (e:=70) (by rw[e70]) fun H7 t7=>?_
 rw[e70] at t7
 have t7':TW H H7 k p d s5 w5:=t7
 refine ar rfl ?_
 -- the second row
 refine au fun H8 z8 r8 x8=>?_
 have A2:=(A1'.add (by decide) (by decide) nf (by decide) hsz (by decide) (by decide)).1 (by decide)
 have g2:dI.getD (0+1) []=[7]:=rfl
 rw[g2] at A2
 have b2:=RW.py (s:=s5) (w:=w5) (l:=[7]) (fits A1').2 (by omega)
 refine TW.add t7' x8 hg (gD r8) (fun ad ha=>by cases ha;exact .inl (Nat.le_refl _)) (by simp) (by rw[A1'.wait];decide) (by rw[A1'.rows];decide) (by rw[A1'.n];decide) (by rw[w5b];exact hsz) (by omega) (by omega) (fits A1').1 A2.1 fun H9 t9=>?_
 refine ar rfl ?_
 have A2':=A2.2
 generalize (w5.add s5 [7]).1=s9 at*
 generalize (w5.add s5 [7]).2.1=w9 at*
 have w9b:=A2'.b
 -- the end
 have A3:iz s9 w9 nmF 1 (bB 1) dI 9 dI.length:=A2'
 obtain⟨c1,c2,c3,fl,c4,_,c5,_,_⟩:=(A3.close (by decide) (by decide) nf hsz (by decide) (by decide)).1 (by decide)
 refine TW.close t9 hg (by rw[A3.rows];decide) (by rw[w9b];decide) (by rw[w9b];exact hsz) (by omega) (by omega) (fits A2').1 c1 fun H10 t10=>?_
 have t10p:=t10.ae
 have l10:(w9.close s9).1.d.logs=0:=by unfold Dk.logs;rw[c4];simp[c5]
 generalize (w9.close s9).1=s10 at*
 have h10:0≤s10.next:=by have:=t10p.wf.tick;omega
 have hlen2:dI.length=2:=rfl
 rw[hlen2] at c3
 obtain⟨o1,o2,o3,o4,o5,o6,o7⟩:=yo c2 (by decide) (by decide) hsz (by decide) (by decide) (by decide) h10 (by omega)
 have ol:=ui s10 nmF ((1:Nat):Int)
 refine TP.open (n:=nmF) (W:=((1:Nat):Int)) t10p hg hsz (by omega) (by omega) o6 o1 (fun q=>by cases q) fun r q k' H11 t11=>?_
 cases q
 generalize (rnOpen s10 nmF ((1:Nat):Int)).1=s11 at*
 refine ar rfl (ar rfl ?_)
 refine au fun H12 z12 r12 x12=>?_
 obtain⟨k1,k2,k3,k4,k5,k6,k7,k8,k9,k10⟩:=o2.bL o3 (by decide) (by decide) nf hsz (by decide) (by decide) (by omega) (by rw[hlen2];omega) (ll:=[6]) (by decide)
 have hl2:((dI.length:Nat):Int)=2:=rfl
 rw[hl2] at k6 k9
 have fl1:=RR.qQ (Ar nmF 1 dI.length) s11 [6]
 have fl2:=RR.yh (Ar nmF 1 dI.length) s11 [6]
 have hNp:av (Ar nmF 1 dI.length).rows (Ar nmF 1 dI.length).b.room=1:=by decide
 rw[hNp] at fl1 fl2
 refine TR.bL t11 x12 hg o7 (gD r12) (fun ad ha=>by cases ha;exact .inl (Nat.le_refl _)) (by simp) hsz (by omega) (by omega) ⟨by omega,by omega⟩ (fun _ q _=>k10 (by rw[k7] at q;rw[hNp] at q;exact q)) k1 fun H13 t13=>?_
 refine ar rfl ?_
 have hb:below [6] dI=1:=by decide
 rw[hb] at k4
 have q13:0≤((Ar nmF 1 dI.length).bL s11 [6]).1.next:=by omega
 generalize ((Ar nmF 1 dI.length).bL s11 [6]).1=s13 at*
 generalize ((Ar nmF 1 dI.length).bL s11 [6]).2.1=r13 at*
 have ok13:∀{r:RR},nP r nmF 1 (bB 1) dI→r.Ok:=fun {r} h=>by
  refine⟨by rw[h.room (by decide) (by decide)];decide,by rw[h.rows];exact h.at_,fun j hj=>?_,by rw[h.rows];decide,h.cols⟩
  ·obtain⟨_,j2⟩:=h.page j hj
   rw[j2,h.room (by decide) (by decide),h.rows,ic]
 obtain⟨n1,n2,n3,n4,n5,n6⟩:=(k2.next k3 (by decide) (by decide) nf hsz (by decide) (by decide) q13 (by omega)).1 (by rw[k4];decide)
 have nl:=RR.yC r13 s13
 rw[k4] at n1
 refine TR.next t13 hg (ok13 k3) (by rw[k3.b];exact hsz) (by omega) (by omega) n1 fun l H14 t14 i14 _=>?_
 rw[k4] at n4
 have q14:0≤(r13.next s13).1.next:=by omega
 generalize (r13.next s13).1=s14 at*
 generalize (r13.next s13).2.1=r14 at*
 have nn:=(n2.next n3 (by decide) (by decide) nf hsz (by decide) (by decide) q14 (by omega)).2 (by rw[n4];decide)
 refine TR.next t14 hg (ok13 n3) (by rw[n3.b];exact hsz) (by omega) (by omega) (row:=[]) (ok:=false) (e:=0) (by rw[nn]) fun l2 H15 t15 i15 x15=>?_
 rw[nn] at t15
 have i15':Ints .u64 H15 l [7]:=i14.FE fun ad ha=>x15 _ (.inr ⟨ad,ha,rfl⟩)
 have hl1:l.n=1:=i14.len
 refine aU (by rw[hl1];rfl) ?_
 refine gr i15' (i:=0) (j:=0) rfl (by simp) fun ad ha=>?_
 refine aU rfl ?_
 have t15p:=t15.ae
 obtain⟨D,d1,_⟩:=TP.bc t15p hg
 refine Cu d1 ?_
 obtain⟨T,cT,_⟩:=n2.calm
 obtain⟨pg,tT⟩:=cT.told
 have hused:s14.d.used=2:=by
  rw[tT.bc.used,tT.len];rfl
 rw[hused]
 refine aU rfl ?_
 refine au fun H16 z16 r16 x16=>?_
 refine ka (i15'.ext x16) (gD r16) (by simp) ?_
 rw[qz]
 exact hK H16 (t15.at.trans x16)
end Go.Proofs.YtdpdmbceakdlmaaGreatDoor
namespace Go.Proofs.YtdpdmbceakdlmaaGreatDoor
structure Bd (s:Pl) (x y:Nat):Prop where
 fit:s.Fit
 lo:0≤s.next
 hi:s.next≤(x:Int)
 logs:s.d.logs≤y
section
variable {s:Pl} {x y:Nat} {n:ByteArray} {w:RW} {r:RR} {W:Int}
theorem Bd.mono {x' y':Nat} (h:Bd s x y) (hx:x≤x') (hy:y≤y'):Bd s x' y':=⟨h.fit,h.lo,by have:=h.hi;omega,Nat.le_trans h.logs hy⟩
theorem Pl.ER {k:Int} (h0:0≤s.next) (h1:s.next<1099511627776):s.next≤(s.aQ n k).1.next:=by
 unfold Pl.aQ
 split
 ·exact Int.le_refl _
 ·split
  ·rw[Pl.pN s _ h0 h1];omega
  ·rcases s.kM n k with ⟨e,he⟩|⟨e,he⟩|⟨f,he,_⟩
   ·rw[he];show _≤(s.met e).next;rw[(s.dQ e).2.2.1];omega
   ·rw[he];show _≤(s.room.1.met e).next;rw[(s.room.1.dQ e).2.2.1,s.bz.2.1];omega
   ·rw[he];show _≤(s.room.1.take f).next;rw[Pl.jY _ _ (by rw[s.bz.2.1];exact h0) (by rw[s.bz.2.1];exact h1),s.bz.2.1];omega
theorem Pl.zC (h0:0≤s.next) (h1:s.next<1099511627776):s.next≤(s.fresh n).1.next:=by
 have hr:=s.bz.2.1
 unfold Pl.fresh
 split
 ·exact Int.le_refl _
 ·split
  ·show _≤(s.met _).next;rw[(s.dQ _).2.2.1];omega
  ·split
   ·show _≤(s.room.1.met _).next;rw[(s.room.1.dQ _).2.2.1,hr];omega
   ·split
    ·show _≤((s.room.1.aV _).met _).next
     rw[((s.room.1.aV _).dQ _).2.2.1]
     show _≤s.room.1.next;rw[hr];omega
    ·show _≤((s.room.1.aV _).take _).next
     rw[Pl.jY _ _ (by show 0≤s.room.1.next;rw[hr];exact h0) (by show s.room.1.next<_;rw[hr];exact h1)]
     show _≤s.room.1.next+1;rw[hr];omega
theorem Bd.aQ (h:Bd s x y) (hx:x<1000000000000) (k:Int):Bd (s.aQ n k).1 (x+1) (y+1):=by
 have a:=h.lo
 have b:=h.hi
 have c:=s.ie (n:=n) (k:=k) a (by omega)
 have d:=s.ER (n:=n) (k:=k) a (by omega)
 have e:=s.lZ n k
 have f:=h.logs
 exact⟨h.fit.aQ n k,by omega,by omega,by omega⟩
theorem Bd.fresh (h:Bd s x y) (hx:x<1000000000000):Bd (s.fresh n).1 (x+1) (y+2):=by
 have a:=h.lo
 have b:=h.hi
 have c:=s.iE (n:=n) a (by omega)
 have d:=s.zC (n:=n) a (by omega)
 have e:=s.oN n
 have f:=h.logs
 exact⟨h.fit.fresh n,by omega,by omega,by omega⟩
theorem Bd.set (h:Bd s x y) (c:Int) (k:UInt8) (b:List UInt8):Bd (s.set c k b).1 x y:=
 ⟨h.fit.set c k b,by rw[Pl.gv];exact h.lo,by rw[Pl.gv];exact h.hi,by rw[Pl.Bg];exact h.logs⟩
theorem Bd.aD (h:Bd s x y) (c:Int):Bd (s.aD c).1 x y:=
 ⟨h.fit.aD c,by rw[Pl.iZ];exact h.lo,by rw[Pl.iZ];exact h.hi,by rw[Pl.nV];exact h.logs⟩
theorem Bd.leave {q:Pl×Int} (h:Bd q.1 x y) (c:Int):Bd (Pl.leave q c).1 x y:=by
 unfold Pl.leave
 split
 ·exact h.aD c
 ·exact h
theorem Bd.more (h:Bd s x y) (hx:x<1000000000000) (k:UInt8) (b:List UInt8):Bd (s.more n k b).1 (x+1) (y+2):=by
 have f:=h.fresh (n:=n) hx
 unfold Pl.more
 split
 ·exact f
 ·refine Bd.leave ?_ _
  split
  ·exact f
  ·exact f.set _ _ _
theorem Bd.look (h:Bd s x y) (hx:x<1000000000000) (k:Int):Bd (s.look n k).1 (x+1) (y+1):=by
 have f:=h.aQ (n:=n) hx k
 unfold Pl.look
 split
 ·exact f
 ·split
  ·exact f
  ·exact f.aD _
theorem Bd.create (h:Bd s x y):Bd (s.aV (s.d.create n).1) x y:=
 ⟨h.fit.aV (s.d.iX n),h.lo,h.hi,Nat.le_trans (s.d.gL n) h.logs⟩
theorem Bd.out (h:Bd s x y) (hx:x<1000000000000):Bd (w.out s).1 (x+1) (y+2):=by
 have m:=h.mono (Nat.le_succ x) (Nat.le_add_right y 2)
 unfold RW.out
 split
 ·exact m
 ·exact h.more hx _ _
theorem Bd.add (h:Bd s x y) (hx:x<1000000000000) (l:List Int):Bd (w.add s l).1 (x+1) (y+2):=by
 have m:=h.mono (Nat.le_succ x) (Nat.le_add_right y 2)
 unfold RW.add
 split
 ·exact m
 ·split
  ·exact m
  ·split
   ·exact m
   ·split
    ·exact m
    ·exact h.out hx
theorem Bd.make (h:Bd s x y) (hx:x<1000000000000):Bd (aH s n W).1 (x+1) (y+2):=by
 have m:=h.mono (Nat.le_succ x) (Nat.le_add_right y 2)
 have c:=h.create (n:=n)
 unfold aH
 split
 ·exact m
 ·split
  ·exact c.mono (Nat.le_succ x) (Nat.le_add_right y 2)
  ·split<;>exact c.more hx _ _
theorem Bd.open (h:Bd s x y) (hx:x<1000000000000):Bd (rnOpen s n W).1 (x+1) (y+1):=by
 have m:=h.mono (Nat.le_succ x) (Nat.le_succ y)
 have c:=h.look (n:=n) hx 0
 unfold rnOpen
 split
 ·exact m
 ·split
  ·exact c
  ·split
   ·exact c
   ·split
    ·exact c
    ·split<;>exact c
theorem Bd.load (h:Bd s x y) (hx:x<1000000000000) (j:Nat):Bd (r.load s j).1 (x+1) (y+1):=by
 have m:=h.mono (Nat.le_succ x) (Nat.le_succ y)
 have c:=h.look (n:=r.b.name) hx ((j:Int)+1)
 unfold RR.load
 split
 ·exact m
 ·split
  ·exact c
  ·split<;>exact c
theorem Bd.next (h:Bd s x y) (hx:x<1000000000000):Bd (r.next s).1 (x+1) (y+1):=by
 have m:=h.mono (Nat.le_succ x) (Nat.le_succ y)
 have c:=h.load (r:=r) hx (r.at_/r.b.room)
 unfold RR.next
 split
 ·exact m
 ·split
  ·exact m
  ·split<;>exact c
theorem gp {n:ByteArray}:∀(l:List Nat) {s:Pl},(Pl.aA n l s).1.fs.length=s.fs.length
 |[],s=>rfl
 |k::l,s=>by
   unfold Pl.aA
   split
   ·rename_i i _
    have hk:(s.put i).1.fs.length=s.fs.length:=by simpa using congrArg List.length (s.oK i)
    split
    ·split
     ·rw[gp l];exact hk
     ·exact hk
    ·exact gp l
   ·exact gp l
theorem Bd.flush (h:Bd s x y) (hf:s.fs.length≤4096):Bd (s.flush n).1 x (y+4096):=
 ⟨h.fit.flush n,by rw[Pl.kN];exact h.lo,by rw[Pl.kN];exact h.hi,by have:=s.vM n;have:=h.logs;omega⟩
theorem Pl.sb (r:Pl×Int):(Pl.out r).1.fs.length=r.1.fs.length:=by
 show (r.1.met r.2).fs.length=_
 rw[(r.1.dQ r.2).2.1]
theorem Pl.yy (s:Pl) (n:ByteArray):(s.flush n).1.fs.length=s.fs.length:=by
 unfold Pl.flush
 split
 ·rfl
 ·split
  ·exact Pl.sb _
  ·split
   ·rw[Pl.sb];exact gp _
   ·rw[Pl.sb];exact gp _
theorem Bd.head (h:Bd s x y) (hx:x<1000000000000) (hw:(w.head s).1.fs.length≤4096):Bd (w.head s).1 (x+1) (y+4100):=by
 have f:=h.aQ (n:=w.b.name) hx 0
 unfold RW.head at hw ⊢
 split
 ·exact f.mono (Nat.le_refl _) (by omega)
 ·rename_i h1
  rw[if_neg h1] at hw
  have g:=(f.set (s.aQ w.b.name 0).2.1 2 (bJ w.b.width w.rows))
  have g2:=Bd.leave (q:=(s.aQ w.b.name 0).1.set (s.aQ w.b.name 0).2.1 2 (bJ w.b.width w.rows)) g (s.aQ w.b.name 0).2.1
  split
  ·exact g2.mono (Nat.le_refl _) (by omega)
  ·rename_i h2
   rw[if_neg h2,Pl.yy] at hw
   exact(g2.flush (n:=w.b.name) hw).mono (Nat.le_refl _) (by omega)
theorem Bd.close (h:Bd s x y) (hx:x<999999999999) (hw:(w.close s).1.fs.length≤4096):Bd (w.close s).1 (x+2) (y+4200):=by
 have o:=h.out (w:=w) (by omega)
 unfold RW.close at hw ⊢
 split
 ·exact h.mono (by omega) (by omega)
 ·rename_i h1
  rw[if_neg h1] at hw
  split
  ·exact o.mono (by omega) (by omega)
  ·rename_i h2
   rw[if_neg h2] at hw
   have e:((w.out s).2.1.ends (w.out s).1).1=((w.out s).2.1.head (w.out s).1).1:=by unfold RW.ends;split<;>rfl
   rw[e] at hw ⊢
   exact(o.head (by omega) hw).mono (by omega) (by omega)
end
end Go.Proofs.YtdpdmbceakdlmaaGreatDoor
