/-
 Runs: the writer's calls: the walk.
-/
import Derived.Test.YtacfhncgbgijhaaGreatVc
import Derived.Test.YtacfhncgbgijhaaGreatFxk
import Derived.Test.YtacfhncgbgijhaaGreatJ32
import Derived.Test.YtacfhncgbgijhaaGreatJ33
namespace Go.Proofs.YtacfhncgbgijhaaGreat
open Go.MapKept
theorem oM [Tab] {s:Sl} {l:List Int} {H:aa} {K:Sl→aa→Prop} (h:Ints .u64 H s l) (hl:l.length≤1000000)
  (hK:∀s' H',au H' 0 fx 1 s' (l.map (Value.int .u64))→Ext H H'→(∀b,ai s' b→H.size≤b)→K s' H'):AQ.sp s H K:=by
 refine AQ.of ?_
 unfold AQ.vc
 have hn:=h.len
 refine aj (fun hc=>?_) (fun hc=>?_)
 ·have:l=[]:=by
   cases l with
   |nil=>rfl
   |cons x r=>
     obtain⟨ad,ha,_⟩:=h.at (i:=0) (by simp)
     rw[ha] at hc;cases hc
  subst this
  exact hK _ H (au.nil _ _ _ _) (.refl _ _) (by rintro b ⟨ad,q,_⟩;cases q)
 ·refine ak fun H1 s1 r1 m1=>?_
  have o1:au H1 0 fx 1 (Sl.mk (some ⟨H.size,0,none⟩) 0 0) []:=⟨rfl,.inr ⟨H.size,0,#[],rfl,Nat.zero_le _,r1,Nat.le_refl _,by unfold maxLen;omega,rfl,rfl⟩⟩
  refine sM.append (s:=Sl.mk (some ⟨H.size,0,none⟩) 0 0) (x:=s) (ws:=l.map (Value.int .u64)) o1 (by simp;omega) (h.ext m1).reads (qG _ _) (by simp;omega) (by simp;omega) (by omega) fun s' H' _ o' m' f' _=>?_
  have m2:Ext H H':=⟨Nat.le_trans m1.size m'.size,fun b hb _=>(m'.same b (by omega) (by rintro⟨ad,e1,e2⟩;cases e1;have:H.size=b:=e2;omega)).trans (m1.same b hb id)⟩
  refine hK s' H' (by simpa using o') m2 fun b hb=>?_
  rcases f' b hb with ⟨ad,e1,e2⟩|q
  ·cases e1;have:H.size=b:=e2;omega
  ·omega
structure pI (H:aa) (k p:Nat) (w:RW) (sw sl:Sl):Prop where
 row:bz H k Fv p w.b [sw.v,.int .i64 (w.n:Int),sl.v,.int .i64 (w.rows:Int)]
 wait:bc EB lF H sw w.wait
 last:au H 0 fx 1 sl (w.last.map (Value.int .u64))
def kz (k:Nat) (sw sl:Sl) (b:Nat):Prop:=b=k∨ai sw b∨ai sl b
section
variable {H:aa} {k p dp:Nat} {w:RW} {sw sl:Sl} {F:Nat→Prop} {s:Pl}
theorem pI.tM (h:pI H k p w sw sl):¬ai sw k:=fun q=>by
 obtain⟨cur,hc⟩:=h.wait.obj k q
 exact absurd (aR hc h.row) (by decide)
theorem pI.I4 (h:pI H k p w sw sl):¬ai sl k:=fun q=>by
 obtain⟨cur,hc⟩:=h.last.obj k q
 exact absurd (aR hc h.row) (by decide)
theorem pI.lt [Tab] (h:pI H k p w sw sl):∀b,kz k sw sl b→b<H.size:=by
 rintro b (rfl|q|q)
 ·exact aL h.row
 ·exact h.wait.lt b q
 ·exact h.last.lt b q
theorem pI.aq [Tab] {H':aa} (h:pI H k p w sw sl) (e:∀b,kz k sw sl b→b<H.size→H'[b]?=H[b]?):pI H' k p w sw sl:=
 ⟨(e k (.inl rfl) (aL h.row)).trans h.row,h.wait.aq fun b hb hl=>e b (.inr (.inl hb)) hl,h.last.aq fun b hb hl=>e b (.inr (.inr hb)) hl⟩
theorem pI.mod [Tab] {G:Nat→Prop} {H':aa} (h:pI H k p w sw sl) (m:Mod G H H') (hn:∀b,kz k sw sl b→¬G b):pI H' k p w sw sl:=h.aq fun b hb hl=>m.same b hl (hn b hb)
theorem Av [Tab] {K:Int→aa→Prop} (hg:Gl H) (h:pI H k p w sw sl) (hp:al F H p dp s) (hd:∀b,F b→¬kz k sw sl b)
  (hn:w.b.name.size≤9223372036854775807) (hlogs:s.d.aH<68719470000) (hnx:s.next<1099511627776) (h0:0≤s.next) (hfit:s.Fit)
  (hK:∀F' sw' H',al F' H' p dp (w.out s).1→pI H' k p (w.out s).2.1 sw' sl→(∀b,ai sw' b→ai sw b)→Mod (fun b=>F b∨b=k) H H'→(∀b,F' b→F b∨H.size≤b)→K (w.out s).2.2 H'):Hf.sp (aI k) H K:=by
 refine Hf.of ?_
 unfold Hf.vc
 simp only[av,aI]
 refine ag.ld (c:=ab .i64) (i:=7) (x:=(w.n:Int)) h.row (bz.tail (j:=1) rfl) ?_
 refine aj (fun hc=>?_) (fun hc=>?_)
 ·have e0 : w.n = 0 := by have : (w.n : Int) = 0 := by simpa using hc
                          omega
  have eo:w.out s=(s,w,0):=if_pos e0
  rw[eo] at hK
  exact hK F sw H hp h (fun b q=>q) (.refl _ _) (fun b q=>.inl q)
 ·have e0:¬w.n=0:=fun q=>by rw[q] at hc;simp at hc
  have eo:w.out s=((s.more w.b.name 1 w.wait).1,{w with b:=w.b.dE (s.more w.b.name 1 w.wait).2,wait:=[],n:=0},(s.more w.b.name 1 w.wait).2):=if_neg e0
  rw[eo] at hK
  have hkF:¬F k:=fun q=>hd k q (.inl rfl)
  refine ag.ld (c:=an) (i:=6) (x:=sw) h.row (bz.tail (j:=0) rfl) ?_
  refine AD (kd:=1) hg h.row hp hkF (gY h.wait) (fun ad ha q=>hd _ q (.inr (.inl ⟨ad,ha,rfl⟩))) hn hlogs hnx h0 hfit fun F1 H1 p1 S1=>?_
  have h1:=h.mod S1.mod fun b hb q=>hd b q hb
  have hkl:=aL h.row
  have hkF1:¬F1 k:=fun q=>(S1.own k q).elim hkF fun r=>by omega
  generalize (s.more w.b.name 1 w.wait).1=s1 at*
  generalize (s.more w.b.name 1 w.wait).2=e at*
  refine ag.st h1.row (i:=6) (by simp[bZ]) rfl fun H2 r2 m2 z2=>?_
  refine ag.st r2 (i:=7) (by simp[bZ]) rfl fun H3 r3 m3 z3=>?_
  have r3':bz H3 k Fv p w.b [(Sl.mk none 0 0).v,.int .i64 ((0:Nat):Int),sl.v,.int .i64 (w.rows:Int)]:=by
   have e:(((bZ p w.b++[sw.v,.int .i64 (w.n:Int),sl.v,.int .i64 (w.rows:Int)]).toArray.setIfInBounds 6 (.slice none 0 0)).setIfInBounds 7 (.int .i64 (0:Int)))=(bZ p w.b++[(Sl.mk none 0 0).v,.int .i64 ((0:Nat):Int),sl.v,.int .i64 (w.rows:Int)]).toArray:=by
    simp[bZ]
   rw[e] at r3;exact r3
  refine oy r3' fun H4 r4 m4 z4=>?_
  have m14:Mod (fun q=>q=k) H1 H4:=(m2.trans m3).trans m4
  have m04:Mod (fun b=>F b∨b=k) H H4:=(S1.mod.mono fun b _ q=>.inl q).trans' m14 fun b hb q=>.inr q
  refine hK F1 (Sl.mk none 0 0) H4 (p1.aq fun b hb hl=>m14.same b hl fun q=>hkF1 (q▸hb)) ⟨r4,bc.nil _ _ _,h1.last.aq fun b hb hl=>m14.same b hl fun q=>h1.I4 (q▸hb)⟩ (by rintro b ⟨ad,q,_⟩;cases q) m04 S1.own
theorem uV (l:List Int):(dh l).length≤8*l.length+1:=by
 unfold dh
 split
 ·simp
 ·rw[List.length_flatMap]
  have:∀l:List Int,(l.map fun x=>(dy x).length).sum=8*l.length:=by
   intro l
   induction l with
   |nil=>rfl
   |cons x l ih=>rw[List.map_cons,List.sum_cons,ih];simp[dy];omega
  have:=this l
  omega
theorem rz {l:List Int} (h:∀x∈l,0≤x∧x<256):iG (dL l)=l.map (Value.int .u8):=by
 rw[←iQ,lX h]
theorem Ak [Tab] {l:Sl} {ll:List Int} {K:Int→aa→Prop} (hg:Gl H) (hgs:¬kz k sw sl aY) (h:pI H k p w sw sl) (hp:al F H p dp s) (hd:∀b,F b→¬kz k sw sl b)
  (hl:Ints .u64 H l ll) (hlb:∀ad,l.a=some ad→¬kz k sw sl ad.block) (hlen:ll.length≤1000000) (hwl:w.wait.length≤1000000) (hwr:w.rows<1099511627776) (hwn:w.n<1099511627776)
  (hn:w.b.name.size≤9223372036854775807) (hlogs:s.d.aH<68719470000) (hnx:s.next<1099511627776) (h0:0≤s.next) (hfit:s.Fit)
  (hK:∀F' sw' sl' H',al F' H' p dp (w.add s ll).1→pI H' k p (w.add s ll).2.1 sw' sl'→(∀b,F' b→¬kz k sw' sl' b)→Step (fun b=>F b∨kz k sw sl b) (fun b=>F' b∨kz k sw' sl' b) H H'→K (w.add s ll).2.2 H'):y7.sp (aI k) l H K:=by
 refine y7.of ?_
 unfold y7.vc
 unfold aI
 refine aA rfl ?_
 simp only[av]
 have hln:=hl.len
 unfold RW.add at hK
 refine pf h.row ?_
 refine aj (fun hc=>?_) (fun hc=>?_)
 ·have e0:w.b.ready≠0:=by simpa using hc
  rw[if_pos e0] at hK
  exact hK F sw sl H hp h hd (.refl _ _)
 have e0:¬w.b.ready≠0:=by simpa using hc
 rw[if_neg e0] at hK
 refine⟨fun _ A=>A=H∧¬((ll.length:Int)≠w.b.width)∧¬(0<w.rows∧aF ll w.last≤0),?_,?_⟩
 ·refine ag.ld (c:=ab .i64) (i:=2) (x:=w.b.width) h.row (bz.get 2 _ rfl) ?_
  refine aj (fun hc=>?_) (fun hc=>?_)
  ·have e1:(ll.length:Int)≠w.b.width:=by rw[←hln];simpa using hc
   rw[if_pos e1] at hK
   exact hK F sw sl H hp h hd (.refl _ _)
  have e1:¬((ll.length:Int)≠w.b.width):=by rw[←hln];simpa using hc
  rw[if_neg e1] at hK
  refine ag.ld (c:=ab .i64) (i:=9) (x:=(w.rows:Int)) h.row (bz.tail (j:=3) rfl) ?_
  refine aj (fun hc=>?_) (fun hc=>?_)
  ·have e2 : 0 < w.rows := by have : (w.rows : Int) > 0 := by simpa using hc
                              omega
   refine ag.ld (c:=an) (i:=8) (x:=sl) h.row (bz.tail (j:=2) rfl) ?_
   refine iE hl h.last.ints (by omega) ?_
   refine aj (fun hc=>?_) (fun hc=>?_)
   ·have e3:aF ll w.last≤0:=by simpa using hc
    rw[if_pos ⟨e2,e3⟩] at hK
    exact hK F sw sl H hp h hd (.refl _ _)
   ·have e3:¬aF ll w.last≤0:=by simpa using hc
    exact⟨rfl,e1,fun q=>e3 q.2⟩
  ·have e2 : ¬ 0 < w.rows := by have : ¬ (w.rows : Int) > 0 := by simpa using hc
                                omega
   exact⟨rfl,e1,fun q=>e2 q.1⟩
 rintro _ A ⟨rfl,e1,e2⟩
 rw[if_neg e1,if_neg e2] at hK
 refine⟨fun A=>bz A k Fv p w.b [sw.v,.int .i64 (w.n:Int),sl.v,.int .i64 (w.rows:Int)],h.row,?_⟩
 refine ag.jm (c:=an) (i:=6) (x:=sw) (cs:=fun _=>_) (fun _ q=>q) (fun _ _=>bz.tail (j:=0) rfl) ?_
 refine uO hl hlen fun r A1 o1 x1=>?_
 have h1:=h.mod x1 fun _ _=>id
 refine⟨h1.row,?_⟩
 have hpl:(dh ll).length≤8*1000000+1:=by have:=uV ll;omega
 have o1':gJ EB A1 r.a (dL (dh ll)):=by
  unfold gJ;rw[pj,rz (ka ll)];exact o1.reads
 have rn:r.n=(dL (dh ll)).length:=by have:=o1.1;simpa using this.symm
 refine bc.append zo h1.wait o1' rn (by rw[dH];omega) (by rw[dH];omega) fun s' A2 o2 g2 _=>?_
 have hkl:=aL h.row
 have z1:=x1.size
 have z2:=g2.1.size
 have r2:bz A2 k Fv p w.b [sw.v,.int .i64 (w.n:Int),sl.v,.int .i64 (w.rows:Int)]:=h1.row.mod g2.1 h.tM
 have l2:Ints .u64 A2 l ll:=(hl.ext x1).mod g2.1 fun ad ha q=>hlb ad ha (.inr (.inl q))
 have q2:au A2 0 fx 1 sl (w.last.map (Value.int .u64)):=h1.last.mod g2.1 fun b hb q=>h1.last.apart h1.wait (by decide) b hb q
 refine ag.st r2 (i:=6) (by simp[bZ]) rfl fun A3 r3 m3 z3=>?_
 have hnew:¬ai s' k:=fun q=>by
  rcases g2.2 k q with u|u
  ·exact h.tM u
  ·omega
 have l3:Ints .u64 A3 l ll:=l2.mod m3 fun ad ha q=>hlb ad ha (.inl q)
 have o3:bc EB lF A3 s' (w.wait++dL (dh ll)):=o2.mod m3 fun b hb q=>hnew (q▸hb)
 refine oM l3 hlen fun c A4 o4 x4 f4=>?_
 have r4:=r3.ext x4
 have hck:¬ai c k:=fun q=>by have:=f4 k q;have:=m3.size;omega
 refine ag.st r4 (i:=8) (by simp[bZ]) rfl fun A5 r5 m5 z5=>?_
 refine ag.ld (c:=ab .i64) (i:=9) (x:=(w.rows:Int)) r5 (by simp[bZ]) ?_
 refine ag.st r5 (i:=9) (by simp[bZ]) rfl fun A6 r6 m6 z6=>?_
 refine ag.ld (c:=ab .i64) (i:=7) (x:=(w.n:Int)) r6 (by simp[bZ]) ?_
 refine ag.st r6 (i:=7) (by simp[bZ]) rfl fun A7 r7 m7 z7=>?_
 rw[aP w.rows (by omega)] at r7
 rw[aP w.n (by omega)] at r7
 have r7':bz A7 k Fv p w.b [s'.v,.int .i64 ((w.n+1:Nat):Int),c.v,.int .i64 ((w.rows+1:Nat):Int)]:=by
  have e:(((((bZ p w.b++[sw.v,.int .i64 (w.n:Int),sl.v,.int .i64 (w.rows:Int)]).toArray.setIfInBounds 6 s'.v).setIfInBounds 8 c.v).setIfInBounds 9 (.int .i64 ((w.rows+1:Nat):Int))).setIfInBounds 7 (.int .i64 ((w.n+1:Nat):Int)))=(bZ p w.b++[s'.v,.int .i64 ((w.n+1:Nat):Int),c.v,.int .i64 ((w.rows+1:Nat):Int)]).toArray:=by
   simp[bZ]
  rw[e] at r7;exact r7
 have m47:Mod (fun q=>q=k) A4 A7:=(m5.trans m6).trans m7
 have h7:pI A7 k p (w.push ll) s' c:=⟨r7',(o3.ext x4).mod m47 fun b hb q=>hnew (q▸hb),o4.mod m47 fun b hb q=>hck (q▸hb)⟩
 have m07:Mod (fun b=>b=k∨ai sw b) A A7:=by
  have a1:Mod (fun b=>b=k∨ai sw b) A A2:=x1.mod.trans' g2.1 fun b _ q=>.inr q
  have a2:Mod (fun b=>b=k∨ai sw b) A A3:=a1.trans' m3 fun b _ q=>.inl q
  have a3:Mod (fun b=>b=k∨ai sw b) A A4:=a2.trans' x4 fun b _ q=>q.elim
  exact a3.trans' m47 fun b _ q=>.inl q
 have s'own:∀b,ai s' b→ai sw b∨A.size≤b:=fun b hb=>(g2.2 b hb).imp_right fun q=>by omega
 have cown:∀b,ai c b→A.size≤b:=fun b hb=>by have:=f4 b hb;have:=m3.size;omega
 have p7:al F A7 p dp s:=hp.aq fun b hb hlt=>m07.same b hlt fun q=>hd b hb (q.imp_right .inl)
 have hd7:∀b,F b→¬kz k s' c b:=by
  rintro b hb (q|q|q)
  ·exact hd b hb (.inl q)
  ·rcases s'own b q with u|u
   ·exact hd b hb (.inr (.inl u))
   ·have:=hp.lt b hb;omega
  ·have:=cown b q;have:=hp.lt b hb;omega
 have S7:∀(F':Nat→Prop) (sw':Sl) (H':aa),(∀b,ai sw' b→ai s' b)→Mod (fun b=>F b∨b=k) A7 H'→(∀b,F' b→F b∨A7.size≤b)→Step (fun b=>F b∨kz k sw sl b) (fun b=>F' b∨kz k sw' c b) A H':=by
  intro F' sw' H' h1 h2 h3
  have z7':=m07.size
  refine⟨(m07.mono fun b _ q=>.inr (q.imp_right .inl)).trans' h2 fun b _ q=>q.imp_right .inl,fun b hb=>?_⟩
  rcases hb with q|q|q|q
  ·rcases h3 b q with u|u
   ·exact .inl (.inl u)
   ·right;omega
  ·exact .inl (.inr (.inl q))
  ·rcases s'own b (h1 b q) with u|u
   ·exact .inl (.inr (.inr (.inl u)))
   ·exact .inr u
  ·exact .inr (cown b q)
 refine ag.ld (c:=ab .i64) (i:=7) (x:=((w.n+1:Nat):Int)) r7' (bz.tail (j:=1) rfl) ?_
 refine ag.ld (c:=ab .i64) (i:=3) (x:=aU w.b.width) r7' (bz.get 3 _ rfl) ?_
 refine aj (fun hc=>?_) (fun hc=>?_)
 ·have e3:((w.n+1:Nat):Int)<aU w.b.width:=by simpa using hc
  rw[if_pos e3] at hK
  exact hK F s' c A7 p7 h7 hd7 (S7 F s' A7 (fun _ q=>q) (.refl _ _) fun b q=>.inl q)
 ·have e3:¬((w.n+1:Nat):Int)<aU w.b.width:=by simpa using hc
  rw[if_neg e3] at hK
  refine Av (hg.aq (m07.same _ hg.lt ?_)) h7 p7 hd7 hn hlogs hnx h0 hfit fun F' sw' H' p8 h8 hsub m8 hown=>hK F' sw' c H' p8 h8 ?_ (S7 F' sw' H' hsub m8 hown)
  ·rintro(q|q)
   ·exact hgs (.inl q)
   ·exact hgs (.inr (.inl q))
  ·rintro b hb (q|q|q)
   ·rcases hown b hb with u|u
    ·exact hd7 b u (.inl q)
    ·have:=h7.lt b (.inl q);omega
   ·rcases hown b hb with u|u
    ·exact hd7 b u (.inr (.inl (hsub b q)))
    ·have:=h7.lt b (.inr (.inl (hsub b q)));omega
   ·rcases hown b hb with u|u
    ·exact hd7 b u (.inr (.inr q))
    ·have:=h7.lt b (.inr (.inr q));omega
end
structure ia (H0:aa) (F0:Nat→Prop) (k p dp:Nat) (sw sl:Sl) (F:Nat→Prop) (A:aa) (s:Pl) (w:RW):Prop where
 pool:al F A p dp s
 wr:pI A k p w sw sl
 dis:∀b,F b→¬kz k sw sl b
 mod:Mod (fun b=>F0 b∨b=k) H0 A
 own:∀b,F b→F0 b∨H0.size≤b
section
variable {H0:aa} {F0:Nat→Prop} {k p dp:Nat} {sw sl:Sl} {F:Nat→Prop} {A:aa} {s:Pl} {w:RW}
theorem ia.step [Tab] {F':Nat→Prop} {A':aa} {s':Pl} (h:ia H0 F0 k p dp sw sl F A s w) (hp:al F' A' p dp s') (S:Step F F' A A'):ia H0 F0 k p dp sw sl F' A' s' w:=by
 refine⟨hp,h.wr.mod S.mod fun b hb q=>h.dis b q hb,fun b hb q=>?_,h.mod.trans' S.mod fun b hb q=>?_,fun b hb=>?_⟩
 ·rcases S.own b hb with r|r
  ·exact h.dis b r q
  ·have:=h.wr.lt b q;omega
 ·rcases h.own b q with r|r
  ·exact .inl r
  ·omega
 ·rcases S.own b hb with r|r
  ·exact h.own b r
  ·right;have:=h.mod.size;omega
theorem ia.ext [Tab] {A':aa} (h:ia H0 F0 k p dp sw sl F A s w) (e:Ext A A'):ia H0 F0 k p dp sw sl F A' s w:=h.step (h.pool.ext e) ⟨e.mod,fun _ q=>.inl q⟩
theorem ia.gl [Tab] (h:ia H0 F0 k p dp sw sl F A s w) (hg:Gl H0) (h1:¬F0 aY) (h2:aY≠k):Gl A:=hg.aq (h.mod.same _ hg.lt fun q=>q.elim h1 h2)
theorem ia.dX [Tab] {A':aa} {w':RW} {sw':Sl} (h:ia H0 F0 k p dp sw sl F A s w) (m:Mod (fun b=>b=k) A A') (hw:pI A' k p w' sw' sl) (hs:∀b,ai sw' b→ai sw b):ia H0 F0 k p dp sw' sl F A' s w':=by
 refine⟨h.pool.aq fun b hb hl=>m.same b hl fun q=>h.dis b hb (.inl q),hw,fun b hb q=>h.dis b hb (q.imp_right fun r=>r.imp_left (hs b)),h.mod.trans' m fun b _ q=>.inr q,h.own⟩
theorem ia.J6 [Tab] {A':aa} {G:Nat→Prop} {n:Nat} (h:ia H0 F0 k p dp sw sl F A s w) (m:Mod G A A') (hG:∀b,G b→n≤b) (hF:∀b,F b→b<n) (hw:∀b,kz k sw sl b→b<n) (h0:H0.size≤n):ia H0 F0 k p dp sw sl F A' s w:=
 ⟨h.pool.aq fun b hb hl=>m.same b hl fun q=>by have:=hG b q;have:=hF b hb;omega,h.wr.mod m fun b hb q=>by have:=hG b q;have:=hw b hb;omega,h.dis,h.mod.trans' m fun b hb q=>by have:=hG b q;omega,h.own⟩
theorem JU {n:Nat} (h:n<18446744073709551616):IntKind.u64.wrap (n:Int)=(n:Int):=by
 have:((n:Int)%18446744073709551616)=n:=Int.emod_eq_of_lt (by omega) (by omega)
 exact this
theorem IV {A:aa} {t:Nat} {x:UInt8} (r:ag A t lF #[.int .u8 (x.toNat:Int)]):bc EB lF A (Sl.mk (some ⟨t,0,none⟩) 1 1) [x]:=
 ⟨rfl,.inr ⟨t,1,#[.int .u8 (x.toNat:Int)],rfl,Nat.zero_le _,r,Nat.le_refl _,by unfold maxLen;omega,rfl,rfl⟩⟩
theorem Eo {A:aa} {t:Nat} {x:Int} (r:ag A t fx #[.int .u64 x]):Ints .u64 A (Sl.mk (some ⟨t,0,none⟩) 1 1) [x]:=by
 refine⟨rfl,fun i v hv=>⟨_,rfl,?_⟩⟩
 rw[bH]
 exact r.cell (by simpa using hv)
set_option maxHeartbeats 1000000 in
theorem tZ [Tab] {H:aa} {K:(Int×Int)→aa→Prop} (hg:Gl H) (hgs:¬kz k sw sl aY) (h:pI H k p w sw sl) (hp:al F H p dp s) (hd:∀b,F b→¬kz k sw sl b)
  (hwr:w.rows<1099511627776) (hwd:0≤w.b.width) (hn:w.b.name.size≤9223372036854775807) (hlogs:s.d.aH<68719460000) (hnx:s.next<1099511620000) (h0:0≤s.next) (hfit:s.Fit)
  (hb1:(w.out s).1.d.aH<68719465000) (hb2:(w.out s).1.next<1099511625000)
  (hb3:∀h hd,(Pl.leave (((w.out s).1.bn w.b.name 0).1.set h 2 hd) h).1.d.aH<68719470000)
  (hK:∀F' sw' H',al F' H' p dp (w.close s).1→pI H' k p (w.close s).2.1 sw' sl→(∀b,F' b→¬kz k sw' sl b)→Step (fun b=>F b∨kz k sw sl b) (fun b=>F' b∨kz k sw' sl b) H H'→K (((w.close s).2.2.1:Int),(w.close s).2.2.2) H'):Ed.sp (aI k) H K:=by
 refine Ed.of ?_
 unfold Ed.vc
 unfold aI
 refine aA rfl ?_
 simp only[av]
 unfold RW.close at hK
 refine pf h.row ?_
 by_cases e0:w.b.ready≠0
 ·rw[if_pos e0] at hK
  refine aA (by simpa using e0) ?_
  refine aZ (by simpa using e0) ?_
  exact hK F sw H hp h hd (.refl _ _)
 rw[if_neg e0] at hK
 refine aZ (by simpa using e0) ?_
 have B0:ia H F k p dp sw sl F H s w:=⟨hp,h,hd,.refl _ _,fun b q=>.inl q⟩
 refine Av hg h hp hd hn (by omega) (by omega) h0 hfit fun F1 sw1 H1 p1 h1 hsub m1 own1=>?_
 have hb20:0≤(w.out s).1.next:=by have:=p1.wf.tick;omega
 have B1:ia H F k p dp sw1 sl F1 H1 (w.out s).1 (w.out s).2.1:=by
  refine⟨p1,h1,?_,m1,own1⟩
  rintro b hb (q|q|q)
  ·rcases own1 b hb with r|r
   ·exact hd b r (.inl q)
   ·have:=h.lt b (.inl q);omega
  ·rcases own1 b hb with r|r
   ·exact hd b r (.inr (.inl (hsub b q)))
   ·have:=h.lt b (.inr (.inl (hsub b q)));omega
  ·rcases own1 b hb with r|r
   ·exact hd b r (.inr (.inr q))
   ·have:=h.lt b (.inr (.inr q));omega
 -- the end of all
 have fin:∀(F':Nat→Prop) (sw':Sl) (A:aa) (s':Pl) (w':RW),(∀b,ai sw' b→ai sw b)→ia H F k p dp sw' sl F' A s' w'→Step (fun b=>F b∨kz k sw sl b) (fun b=>F' b∨kz k sw' sl b) H A:=by
  intro F' sw' A s' w' hs B
  refine⟨B.mod.mono fun b _ q=>q.imp_right .inl,fun b hb=>?_⟩
  rcases hb with q|q|q|q
  ·rcases B.own b q with r|r
   ·exact .inl (.inl r)
   ·exact .inr r
  ·exact .inl (.inr (.inl q))
  ·exact .inl (.inr (.inr (.inl (hs b q))))
  ·exact .inl (.inr (.inr (.inr q)))
 refine aj (fun hc=>?_) (fun hc=>?_)
 ·have e1:(w.out s).2.2≠0:=by simpa using hc
  rw[if_pos e1] at hK
  exact hK F1 sw1 H1 p1 h1 B1.dis (fin F1 sw1 H1 _ _ hsub B1)
 have e1:¬(w.out s).2.2≠0:=by simpa using hc
 rw[if_neg e1] at hK
 have hwb:(w.out s).2.1.b=w.b∧(w.out s).2.1.rows=w.rows:=by
  unfold RW.out at e1 ⊢
  split
  ·exact⟨rfl,rfl⟩
  ·rename_i hq
   rw[if_neg hq] at e1
   refine⟨?_,rfl⟩
   show w.b.dE _=_
   unfold Rb.dE;rw[if_neg e1]
 obtain⟨hwb1,hwb2⟩:=hwb
 rw[←hwb1] at hn hb3 hwd
 rw[←hwb2] at hwr
 have hF0:¬F aY:=hp.fF
 have hk0:aY≠k:=fun q=>hgs (.inl q)
 generalize hs1:(w.out s).1=s1 at*
 generalize hw1:(w.out s).2.1=w1 at*
 refine ag.ld (c:=ar) (i:=0) (x:=aI p) h1.row (bz.get 0 _ rfl) ?_
 refine ag.ld (c:=bK) (i:=1) (x:=w1.b.name) h1.row (bz.get 1 _ rfl) ?_
 refine Dv (B1.gl hg hF0 hk0) p1 hn (by decide) (by decide) (by omega) (by omega) fun F2 H2 p2 S2=>?_
 have B2:=B1.step p2 S2
 have hnx2:(s1.bn w1.b.name 0).1.next≤s1.next+1:=s1.sS hb20 (by omega)
 have hhead:w1.head s1=if (s1.bn w1.b.name 0).2.2≠0 then ((s1.bn w1.b.name 0).1,(s1.bn w1.b.name 0).2.2) else
   if (Pl.leave ((s1.bn w1.b.name 0).1.set (s1.bn w1.b.name 0).2.1 2 (cD w1.b.width w1.rows)) (s1.bn w1.b.name 0).2.1).2≠0 then Pl.leave ((s1.bn w1.b.name 0).1.set (s1.bn w1.b.name 0).2.1 2 (cD w1.b.width w1.rows)) (s1.bn w1.b.name 0).2.1
   else (Pl.leave ((s1.bn w1.b.name 0).1.set (s1.bn w1.b.name 0).2.1 2 (cD w1.b.width w1.rows)) (s1.bn w1.b.name 0).2.1).1.flush w1.b.name:=rfl
 have hsn:=(s1.bn w1.b.name 0).1.nz (s1.bn w1.b.name 0).2.1 2 (cD w1.b.width w1.rows)
 have hb3':=hb3 (s1.bn w1.b.name 0).2.1 (cD w1.b.width w1.rows)
 generalize (s1.bn w1.b.name 0).1=s2 at*
 generalize (s1.bn w1.b.name 0).2.1=hh at*
 generalize (s1.bn w1.b.name 0).2.2=e2 at*
 -- what stands behind each cut
 obtain⟨X0,hX0⟩:∃X0:Pl×Int,X0=if e2≠0 then (s2,e2) else s2.set hh 2 (cD w1.b.width w1.rows):=⟨_,rfl⟩
 obtain⟨X1,hX1⟩:∃X1:Pl×Int,X1=if e2≠0 then (s2,e2) else Pl.leave (s2.set hh 2 (cD w1.b.width w1.rows)) hh:=⟨_,rfl⟩
 have hX1':X1=Pl.leave X0 hh:=by
  rw[hX1,hX0]
  by_cases q:e2≠0
  ·rw[if_pos q,if_pos q];exact(if_neg q).symm
  ·rw[if_neg q,if_neg q]
 have hX2:w1.head s1=if X1.2≠0 then X1 else X1.1.flush w1.b.name:=by
  rw[hhead,hX1]
  by_cases q:e2≠0
  ·rw[if_pos q,if_pos q,if_pos q]
  ·rw[if_neg q,if_neg q]
 have hX0n:X0.1.next≤s1.next+1:=by
  rw[hX0]
  by_cases q:e2≠0
  ·rw[if_pos q];exact hnx2
  ·rw[if_neg q,hsn];exact hnx2
 have hX1l:X1.2=0→X1.1.d.aH<68719470000:=by
  rw[hX1]
  by_cases q:e2≠0
  ·rw[if_pos q];intro r;exact absurd r q
  ·rw[if_neg q];intro _;exact hb3'
 refine⟨fun e A=>e=X0.2∧∃F',ia H F k p dp sw1 sl F' A X0.1 w1,?_,?_⟩
 ·refine aj (fun hc=>?_) (fun hc=>?_)
  ·have q:¬e2≠0:=by simpa using hc
   rw[if_neg q] at hX0
   refine⟨fun A=>bz A k Fv p w1.b [sw1.v,.int .i64 (w1.n:Int),sl.v,.int .i64 (w1.rows:Int)],B2.wr.row,?_⟩
   refine ag.jm (c:=ar) (i:=0) (x:=aI p) (cs:=fun _=>_) (fun _ q=>q) (fun _ _=>bz.get 0 _ rfl) ?_
   refine ag.jm (c:=ab .i64) (i:=2) (x:=w1.b.width) (cs:=fun _=>_) (fun _ q=>q) (fun _ _=>bz.get 2 _ rfl) ?_
   refine ag.jm (c:=ab .i64) (i:=9) (x:=(w1.rows:Int)) (cs:=fun _=>_) (fun _ q=>q) (fun _ _=>bz.tail (j:=3) rfl) ?_
   have hu8:IntKind.u8.wrap w1.b.width=((UInt8.ofNat w1.b.width.toNat).toNat:Int):=by
    have:w1.b.width=(w1.b.width.toNat:Int):=by omega
    rw[this,xS];simp
   have hu64:IntKind.u64.wrap (w1.rows:Int)=(w1.rows:Int):=JU (by omega)
   rw[hu8,hu64]
   have putW:∀(A:aa) (t:Nat) (K':Sl→aa→Prop),ag A t fx #[.int .u64 (w1.rows:Int)]→(∀r A',gJ EB A' r.a (dL (dh [(w1.rows:Int)]))→r.n=(dL (dh [(w1.rows:Int)])).length→Ext A A'→K' r A')→yQ.sp (Sl.mk (some ⟨t,0,none⟩) 1 1) A K':=by
    intro A t K' r hk
    refine uO (Eo r) (by simp) fun r A' o x=>hk r A' ?_ ?_ x
    ·unfold gJ;rw[pj,rz (ka _)];exact o.reads
    ·have:=o.1;rw[dH];simpa using this.symm
   have tail:∀(A:aa) (F':Nat→Prop) (t:Nat) (r:Sl),ia H F k p dp sw1 sl F' A s2 w1→H2.size≤t→F'=F2→ag A t lF #[.int .u8 ((UInt8.ofNat w1.b.width.toNat).toNat:Int)]→gJ EB A r.a (dL (dh [(w1.rows:Int)]))→r.n=(dL (dh [(w1.rows:Int)])).length→
     bS an Tryz.prog (Builtin.append_ #[jP,jP] jP #[(.slice (some ⟨t,0,none⟩) 1 1),r.v]) A fun(z:Sl) A'=>bz A' k Fv p w1.b [sw1.v,.int .i64 (w1.n:Int),sl.v,.int .i64 (w1.rows:Int)]∧
      yI.sp (aI p) hh (2:Int) z A' fun(e:Int) A''=>bz A'' k Fv p w1.b [sw1.v,.int .i64 (w1.n:Int),sl.v,.int .i64 (w1.rows:Int)]∧(e=X0.2∧∃F',ia H F k p dp sw1 sl F' A'' X0.1 w1):=by
    intro A F' t r B ht hF rt hr hrn
    subst hF
    have o:=IV rt
    have hrl:(dL (dh [(w1.rows:Int)])).length=8:=by rw[dH];simp[dh,dy]
    refine bc.append zo (s:=Sl.mk (some ⟨t,0,none⟩) 1 1) (x:=r) o hr hrn (by rw[hrl];simp) (by rw[hrl];simp) fun z A' oz gz _=>?_
    have B':ia H F k p dp sw1 sl F' A' s2 w1:=B.J6 gz.1 (n:=H2.size) (by rintro b ⟨ad,q1,q2⟩;cases q1;subst q2;exact ht) (fun b hb=>p2.lt b hb) (fun b hb=>B2.wr.lt b hb) B2.mod.size
    refine⟨B'.wr.row,?_⟩
    refine Ej (kd:=2) (B'.gl hg hF0 hk0) B'.pool (gY oz) fun F3 H3 p3 S3=>?_
    have B3:=B'.step p3 S3
    refine⟨B3.wr.row,?_⟩
    rw[hX0]
    exact⟨rfl,F3,B3⟩
   refine⟨?_,?_⟩
   ·refine ak fun A1 z1 r1 x1=>⟨(B2.ext x1).wr.row,?_⟩
    refine ak fun A2 z2 r2 x2=>⟨((B2.ext x1).ext x2).wr.row,?_⟩
    refine putW A2 _ _ r2 fun r A3 hr hrn x3=>⟨(((B2.ext x1).ext x2).ext x3).wr.row,?_⟩
    exact tail A3 F2 _ r (((B2.ext x1).ext x2).ext x3) (Nat.le_refl _) rfl ((r1.ext x2).ext x3) hr hrn
   ·refine ak fun A1 z1 r1 x1=>⟨(B2.ext x1).wr.row,?_,?_⟩
    ·refine ak fun A2 z2 r2 x2=>⟨((B2.ext x1).ext x2).wr.row,?_⟩
     refine putW A2 _ _ (r1.ext x2) fun r A3 hr hrn x3=>⟨(((B2.ext x1).ext x2).ext x3).wr.row,?_⟩
     exact tail A3 F2 _ r (((B2.ext x1).ext x2).ext x3) (by omega) rfl (r2.ext x3) hr hrn
    ·refine putW A1 _ _ r1 fun r A2 hr hrn x2=>⟨((B2.ext x1).ext x2).wr.row,?_⟩
     refine ak fun A3 z3 r3 x3=>⟨(((B2.ext x1).ext x2).ext x3).wr.row,?_⟩
     have:=x2.size
     exact tail A3 F2 _ r (((B2.ext x1).ext x2).ext x3) (by omega) rfl r3 (hr.ext x3) hrn
  ·have q:e2≠0:=by simpa using hc
   rw[if_pos q] at hX0
   rw[hX0]
   exact⟨rfl,F2,B2⟩
 rintro _ A3 ⟨rfl,F3,B3⟩
 refine⟨fun e A=>e=X1.2∧∃F',ia H F k p dp sw1 sl F' A X1.1 w1,?_,?_⟩
 ·refine aj (fun hc=>?_) (fun hc=>?_)
  ·have q:X0.2=0:=by simpa using hc
   refine ag.ld (c:=ar) (i:=0) (x:=aI p) B3.wr.row (bz.get 0 _ rfl) ?_
   refine nD (B3.gl hg hF0 hk0) B3.pool (by omega) fun F4 H4 p4 S4=>?_
   have e:X1=X0.1.aQ hh:=by rw[hX1'];exact if_pos q
   rw[e]
   exact⟨rfl,F4,B3.step p4 S4⟩
  ·have q:¬X0.2=0:=by simpa using hc
   have e:X1=X0:=by rw[hX1'];exact if_neg q
   rw[e]
   exact⟨rfl,F3,B3⟩
 rintro _ A4 ⟨rfl,F4,B4⟩
 refine⟨fun e A=>e=(w1.head s1).2∧∃F',ia H F k p dp sw1 sl F' A (w1.head s1).1 w1,?_,?_⟩
 ·refine aj (fun hc=>?_) (fun hc=>?_)
  ·have q:X1.2=0:=by simpa using hc
   refine ag.ld (c:=ar) (i:=0) (x:=aI p) B4.wr.row (bz.get 0 _ rfl) ?_
   refine ag.ld (c:=bK) (i:=1) (x:=w1.b.name) B4.wr.row (bz.get 1 _ rfl) ?_
   refine Fe (B4.gl hg hF0 hk0) B4.pool (hX1l q) fun F5 H5 p5 S5=>?_
   have e:w1.head s1=X1.1.flush w1.b.name:=by rw[hX2];exact if_neg (by simpa using q)
   rw[e]
   exact⟨rfl,F5,B4.step p5 S5⟩
  ·have q:¬X1.2=0:=by simpa using hc
   have e:w1.head s1=X1:=by rw[hX2];exact if_pos q
   rw[e]
   exact⟨rfl,F4,B4⟩
 rintro _ A5 ⟨rfl,F5,B5⟩
 unfold RW.ends at hK
 refine oy B5.wr.row fun A6 r6 m6 z6=>?_
 refine aj (fun hc=>?_) (fun hc=>?_)
 ·have q:(w1.head s1).2≠0:=by simpa using hc
  rw[if_pos q] at hK
  have B6:ia H F k p dp sw1 sl F5 A6 (w1.head s1).1 {w1 with b:=w1.b.dE (w1.head s1).2}:=B5.dX m6 ⟨r6,B5.wr.wait.mod m6 fun b hb q=>B5.wr.tM (q▸hb),B5.wr.last.mod m6 fun b hb q=>B5.wr.I4 (q▸hb)⟩ fun _ q=>q
  exact hK F5 sw1 A6 B6.pool B6.wr B6.dis (fin F5 sw1 A6 _ _ hsub B6)
 ·have q:¬(w1.head s1).2≠0:=by simpa using hc
  rw[if_neg q] at hK
  have eb:w1.b.dE (w1.head s1).2=w1.b:=if_neg q
  rw[eb] at r6
  refine ag.st r6 (i:=5) (by simp[bZ]) rfl fun A7 r7 m7 z7=>?_
  rw[nr] at r7
  have m57:=m6.trans m7
  have B7:ia H F k p dp sw1 sl F5 A7 (w1.head s1).1 w1.stop:=B5.dX m57 ⟨r7,B5.wr.wait.mod m57 fun b hb q=>B5.wr.tM (q▸hb),B5.wr.last.mod m57 fun b hb q=>B5.wr.I4 (q▸hb)⟩ fun _ q=>q
  refine ag.ld (c:=ab .i64) (i:=9) (x:=(w1.rows:Int)) B7.wr.row (bz.tail (j:=3) rfl) ?_
  exact hK F5 sw1 A7 B7.pool B7.wr B7.dis (fin F5 sw1 A7 _ _ hsub B7)
end
theorem ES {H:aa} {z:FZ} {K:Bool→aa→Prop} (hA:dF H z.2 z.1) (hK:K (!z.1.pins.isEmpty) H):DU.sp (aI z.2.p) H K:=by
 refine DU.of ?_
 unfold DU.vc
 simp only[av]
 refine hA.row.ld (c:=ab .i64) (i:=5) (x:=(z.1.pins.length:Int)) rfl ?_
 have e:decide ((z.1.pins.length:Int)>0)=!z.1.pins.isEmpty:=by
  cases z.1.pins with
  |nil=>rfl
  |cons a l=>simp
 rw[e];exact hK
theorem vk [Tab] {H:aa} {s:Sl} {l:List FZ} {K:Int→aa→Prop} (h:bc eP ru H s (l.map fun z=>z.2.p)) (hA:∀z∈l,dF H z.2 z.1) (hl:l.length≤1048576)
  (hK:∀r:Int,decide (r≥0)=(l.any fun z=>!z.1.pins.isEmpty)→K r H):G1.sp s H K:=by
 refine G1.of ?_
 unfold G1.vc
 have hn:=h.n (by decide)
 rw[List.length_map] at hn
 refine aB l.length (fun k x H1=>H=H1∧x=(k:Int)∧∀z∈l.take k,z.1.pins.isEmpty=true) ⟨rfl,rfl,by simp⟩ ?_
 rintro k _ _ next hk ⟨rfl,rfl,hf⟩ hnext
 refine aj (fun hc=>?_) (fun hc=>?_)
 ·have hlt:k<l.length:=by rw[hn] at hc;simpa using hc
  refine qY h (i:=k) (q:=l[k].2.p) (by simp[hlt]) rfl fun ad ha=>?_
  refine ES (hA _ (List.getElem_mem hlt)) ?_
  cases hs:l[k].1.pins.isEmpty with
  |false=>
    refine aZ rfl (hK _ ?_)
    rw[decide_eq_true (by omega)]
    exact(List.any_eq_true.2 ⟨l[k],List.getElem_mem hlt,by rw[hs];rfl⟩).symm
  |true=>
    refine aA rfl (hnext hlt _ _ ⟨rfl,aP k (by omega),?_⟩)
    intro z hz
    rw[List.take_succ_eq_append_getElem hlt] at hz
    rcases List.mem_append.1 hz with q|q
    ·exact hf z q
    ·simp at q;subst q;exact hs
 ·have hge:k=l.length:=by rw[hn] at hc;simp at hc;omega
  rw[hge,List.take_of_length_le (Nat.le_refl _)] at hf
  refine hK _ ?_
  have:(l.any fun z=>!z.1.pins.isEmpty)=false:=by
   rw[List.any_eq_false]
   intro z hz
   rw[hf z hz];simp
  rw[this];rfl
theorem qg [Tab] {H:aa} {s:Sl} {l:List FZ} {K:Bool→aa→Prop} (h:bc eP ru H s (l.map fun z=>z.2.p)) (hA:∀z∈l,dF H z.2 z.1) (hl:l.length≤1048576)
  (hK:K (l.any fun z=>!z.1.pins.isEmpty) H):HX.sp s H K:=by
 refine HX.of ?_
 unfold HX.vc
 exact vk h hA hl fun r hr=>by rw[hr];exact hK
theorem erase_filter:∀{l:List FZ} {i:Nat} {a:FZ},(∀(i j:Nat) (z z':FZ),l[i]?=some z→l[j]?=some z'→z.2.p=z'.2.p→i=j)→l[i]?=some a→l.eraseIdx i=l.filter fun z=>!(z.2.p==a.2.p)
 |[],i,a,_,h=>by simp at h
 |b::l,0,a,hu,h=>by
   simp at h;subst h
   rw[List.eraseIdx_cons_zero,List.filter_cons,if_neg (by simp)]
   refine(List.filter_eq_self.2 fun z hz=>?_).symm
   obtain⟨j,hj⟩:=List.mem_iff_getElem?.1 hz
   have:z.2.p≠b.2.p:=fun e=>by have:=hu (j+1) 0 z b (by simpa using hj) rfl e;omega
   simpa using this
 |b::l,i+1,a,hu,h=>by
   simp only[List.getElem?_cons_succ] at h
   have hne:b.2.p≠a.2.p:=fun e=>by have:=hu 0 (i+1) b a rfl (by simpa using h) e;omega
   rw[List.eraseIdx_cons_succ,List.filter_cons,if_pos (by simpa using hne)]
   rw[erase_filter (fun i j z z' h1 h2 e=>by have:=hu (i+1) (j+1) z z' (by simpa using h1) (by simpa using h2) e;omega) h]
def ju (zs w:List FZ):List FZ:=zs.filter fun z=>!(w.any fun u=>u.2.p==z.2.p)
theorem zU (zs w:List FZ) (a:FZ):ju zs (w++[a])=(ju zs w).filter fun z=>!(z.2.p==a.2.p):=by
 unfold ju
 rw[List.filter_filter]
 refine List.filter_congr fun z _=>?_
 rw[List.any_append,List.any_cons,List.any_nil,Bool.or_false,Bool.not_or,Bool.and_comm]
 congr 2
 exact Bool.beq_comm
theorem AN [Tab] {F:Nat→Prop} {H:aa} {p dp:Nat} {s:Pl} {n:ByteArray} {K:Int→aa→Prop} (hg:Gl H) (h:al F H p dp s)
  (hK:∀F' H',al F' H' p dp (s.dt n).1→Step F F' H H'→K (s.dt n).2 H'):Fj.sp (aI p) n H K:=by
 have h00:=h
 obtain⟨x,D,hd,hF⟩:=h
 refine Fj.of ?_
 unfold Fj.vc
 simp only[av]
 refine jc hd.pool ?_
 unfold Pl.dt at hK
 refine aj (fun hw=>?_) (fun hw=>?_)
 ·have hw':s.wrong≠0:=by simpa using hw
  rw[if_pos hw'] at hK
  exact hK F H h00 (.refl _ _)
 have hw':¬s.wrong≠0:=by simpa using hw
 rw[if_neg hw'] at hK
 refine hd.pool.head.ld (c:=ar) (i:=0) (x:=aI dp) rfl ?_
 refine rZ hd.gW ?_
 have fin:∀(e:Int) (x':PG) (D':Nat→Prop) (H1:aa) (t:Pl),bL x' D' H1 p dp t→Step (fun b=>D b∨x.all p b) (fun b=>D' b∨x'.all p b) H H1→(∀F' H',al F' H' p dp (Pl.out (t,e)).1→Step F F' H H'→K (Pl.out (t,e)).2 H')→
   uS.sp (aI p) e H1 fun r H2=>K r H2:=by
  intro e x' D' H1 t h1 S1 hk
  refine vB (hd.gl hg S1.mod) h1 fun H2 h2 S2=>?_
  obtain⟨F',q1,q2⟩:=h2.out (x:=x) (D:=D) (F:=F) (H:=H) hF (S1.trans S2)
  exact hk F' H2 q1 q2
 refine aj (fun hz=>?_) (fun hz=>?_)
 ·have hz':(s.d.len n).2≠0:=by simpa using hz
  rw[if_pos hz'] at hK
  exact fin _ x D H s hd (.refl _ _) hK
 have hz':¬(s.d.len n).2≠0:=by simpa using hz
 rw[if_neg hz'] at hK
 refine IB hd.pool fun sl H1 o1 e1 f1=>?_
 have hd1:=hd.ext e1
 have hlen1:=o1.n (by decide)
 rw[List.length_map] at hlen1
 have hll:(x.of n).length≤4096:=by
  have h1:=PG.yh hd.pool.fs n
  have h2:=s.iO n
  rw[←h1,List.length_map] at h2
  have:=hd.pool.wf.len;have:=hd.pool.wf.most;omega
 have hany:((x.of n).any fun z=>!z.1.pins.isEmpty)=s.fs.any (fun f=>f.name.toList==n.toList&&!f.pins.isEmpty):=by
  rw[Bool.eq_iff_iff,List.any_eq_true,List.any_eq_true]
  constructor
  ·rintro⟨z,hz,e⟩
   obtain⟨q1,q2⟩:=PG.eY.1 hz
   refine⟨z.1,by rw[hd.pool.fs];exact List.mem_map.2 ⟨z,q1,rfl⟩,?_⟩
   rw[q2,e];simp
  ·rintro⟨f,hf,e⟩
   rw[hd.pool.fs] at hf
   obtain⟨z,hz,rfl⟩:=List.mem_map.1 hf
   simp only[Bool.and_eq_true] at e
   exact⟨z,PG.eY.2 ⟨hz,jj (by simpa using e.1)⟩,e.2⟩
 refine qg o1 (fun z hz=>hd1.pool.af.each z (PG.eY.1 hz).1) (by omega) ?_
 rw[hany]
 cases hb:s.fs.any (fun f=>f.name.toList==n.toList&&!f.pins.isEmpty) with
 |true=>
   rw[hb,if_pos rfl] at hK
   obtain⟨F',q1,q2⟩:=hd1.out (x:=x) (D:=D) (F:=F) (H:=H) hF (Step.ext e1)
   exact aZ rfl (hK F' H1 q1 q2)
 |false=>
   rw[hb,if_neg (by simp)] at hK
   refine aA rfl ?_
   have hfree:∀z∈x.of n,z.1.pins=[]:=by
    intro z hz
    rw[hb] at hany
    have:=(List.any_eq_false.1 hany) z hz
    simpa using this
   refine aB (x.of n).length (fun k z A=>z=(k:Int)∧∃y,bL y D A p dp {s with fs:=(ju x.zs ((x.of n).take k)).map (·.1)}∧y.zs=ju x.zs ((x.of n).take k)∧Step (fun b=>D b∨x.all p b) (fun b=>D b∨y.all p b) H1 A∧bc eP ru A sl ((x.of n).map fun z=>z.2.p)) ⟨rfl,x,?_,?_,.refl _ _,o1⟩ ?_
   ·have e:(ju x.zs ((x.of n).take 0)).map (·.1)=s.fs:=by
     rw[hd.pool.fs];unfold ju PG.fs
     rw[List.filter_eq_self.2 (fun _ _=>by simp)]
    rw[e];exact hd1
   ·unfold ju
    rw[List.filter_eq_self.2 (fun _ _=>by simp)]
   rintro k _ A next hk ⟨rfl,y,hdA,hy,SA,oA⟩ hnext
   have hgA:Gl A:=hd1.gl (hg.mod e1 id) SA.mod
   refine aj (fun hc=>?_) (fun hc=>?_)
   ·have hlt:k<(x.of n).length:=by rw[hlen1] at hc;simpa using hc
    have hzk:(x.of n)[k]∈x.of n:=List.getElem_mem hlt
    obtain⟨hzx,hzn⟩:=PG.eY.1 hzk
    have hzy:(x.of n)[k]∈y.zs:=by
     rw[hy]
     unfold ju
     rw[List.mem_filter]
     refine⟨hzx,?_⟩
     rw[Bool.not_eq_true',List.any_eq_false]
     intro u hu e
     obtain⟨j,hj,rfl⟩:=List.getElem_of_mem hu
     simp only[List.length_take] at hj
     simp only[List.getElem_take,beq_iff_eq] at e
     have hjm:(x.of n)[j]∈x.of n:=List.getElem_mem (by omega)
     have e2:=hd.pool.af.ptr (PG.eY.1 hjm).1 hzx e
     have hnd:(x.of n).Nodup:=by
      have hz:x.zs.Nodup:=by
       have:=hd.pool.wf.keys
       rw[hd.pool.fs] at this
       unfold PG.fs at this
       rw[List.map_map] at this
       exact jV _ this
      unfold PG.of
      exact(List.mergeSort_perm _ _).symm.nodup (hz.filter _)
     have:=(List.getElem_inj hnd).1 e2
     omega
    obtain⟨i,hi⟩:=List.mem_iff_getElem?.1 hzy
    refine qY oA (i:=k) (q:=(x.of n)[k].2.p) (by simp[hlt]) rfl fun ad ha=>?_
    refine hdA.pool.head.ld (c:=cJ) (i:=2) (x:=some y.mf) rfl ?_
    simp only[av]
    refine dF.Az (hdA.pool.af.each _ hzy) ?_
    refine yS hgA hdA hi (hfree _ hzk) fun ef' v A2 h2 S2 m2=>?_
    have e2:y.zs.eraseIdx i=ju x.zs ((x.of n).take (k+1)):=by
     rw[List.take_succ_eq_append_getElem hlt,zU,←hy]
     refine erase_filter (fun a c z z' q1 q2 e=>?_) hi
     by_cases hac:a=c
     ·exact hac
     ·exact absurd (.inl e) (hdA.pool.af.apart a c z z' q1 q2 hac z.2.p (.inl rfl))
    refine hnext hlt _ _ ⟨aP k (by omega),_,?_,e2,SA.trans S2,?_⟩
    ·have e3:(Pl.drop {s with fs:=(ju x.zs ((x.of n).take k)).map (·.1)} i)={s with fs:=(ju x.zs ((x.of n).take (k+1))).map (·.1)}:=by
      unfold Pl.drop
      simp only
      rw[←oN,←e2,hy]
     rw[←e3];exact h2
    ·refine oA.aq fun b hb hl=>m2.same b hl ?_
     intro e
     obtain⟨c,q⟩:=oA.obj b hb
     rw[e,hdA.pool.af.fmap.obj] at q;cases q
   ·have hge:k=(x.of n).length:=by rw[hlen1] at hc;simp at hc;omega
    have e4:({s with fs:=(ju x.zs ((x.of n).take k)).map (·.1)}:Pl)=s.forget n:=by
     unfold Pl.forget
     rw[hge,List.take_of_length_le (Nat.le_refl _),hd.pool.fs]
     unfold ju PG.fs
     rw[List.filter_map]
     congr 2
     refine List.filter_congr fun z hz=>?_
     show (!_)=!(z.1.name.toList==n.toList)
     congr 1
     rw[Bool.eq_iff_iff,List.any_eq_true,beq_iff_eq]
     constructor
     ·rintro⟨u,hu,e⟩
      obtain⟨q1,q2⟩:=PG.eY.1 hu
      have:=hd.pool.af.ptr q1 hz (by simpa using e)
      rw[←this,q2]
     ·intro e
      exact⟨z,PG.eY.2 ⟨hz,jj e⟩,by simp⟩
    rw[e4] at hdA
    refine hdA.pool.head.ld (c:=ar) (i:=0) (x:=aI dp) rfl ?_
    refine BM hdA.gW fun D2 H2 a2 S2=>?_
    obtain⟨q1,q2⟩:=hdA.rU hgA a2 S2
    exact fin _ y D2 H2 _ q1 ((SA.trans q2).ahead e1) hK
end Go.Proofs.YtacfhncgbgijhaaGreat
namespace Go.Proofs.YtacfhncgbgijhaaGreat
def v0 (j:Nat) (l:List Int):Prop:=l=[(j:Int)+1]
open Go.MapKept
variable {H A:aa} {p dp:Nat} {s:Pl} {n:ByteArray}
end Go.Proofs.YtacfhncgbgijhaaGreat
namespace Go.Proofs.YtacfhncgbgijhaaGreat
open Go.MapKept
theorem qF [Tab]:(zc Tryz.prog qA).size=6:=by kernel_rfl
theorem k9:lI Tryz.prog qA 6=true:=by kernel_rfl
def Bm (pp:Option Addr) (n:ByteArray) (w:Int):Array Value:=#[.pointer pp,.string n,.int .i64 w,.int .i64 (aU w),.int .i64 0,.bool false]
theorem oa (pp:Option Addr) (n:ByteArray) (w:Int):∀v∈(Bm pp n w).toList,v.oneCell'=true:=by
 intro v hv
 simp[Bm] at hv
 rcases hv with rfl|rfl|rfl|rfl|rfl|rfl<;>rfl
theorem uL [Tab] {pp:Option Addr} {n:ByteArray} {w:Int} {H:aa} {K:((Option Addr×ByteArray×Int×Int×Int×Bool)×Int)→aa→Prop}
  {e:Int} (he:(if pp.isNone=true then 1 else if aU w=0 then 60 else 0)=e) (hK:∀H',Ext H H'→K ((pp,n,w,aU w,0,false),e) H'):F6.sp pp n w H K:=by
 subst he
 refine F6.of ?_
 unfold F6.vc
 refine ak fun H1 z1 r1 e1=>?_
 refine kj ?_
 refine ak fun H2 z2 r2 e2=>?_
 refine ag.kM (cs:=Bm pp n w) r2 k9 qF (oa _ _ _) fun H3 r3 m3 z3=>?_
 have e3:Ext H H3:=⟨by have:=m3.size;omega,fun b hb _=>(m3.same b (by omega) (by intro q;have:b=H1.size:=q;omega)).trans ((e2.same b (by omega) id).trans (e1.same b hb id))⟩
 have r13:ag H3 H.size qA (zc Tryz.prog qA):=(r1.ext e2).mod m3 (by intro q;have:H.size=H1.size:=q;omega)
 have fin:∀e:Int,(∀H',Ext H H'→K ((pp,n,w,aU w,0,false),e) H')→db (bq [ar,bK,(ab .i64),(ab .i64),(ab .i64),aw]) 6 H3 ⟨H1.size,0,none⟩ fun(x:(Option Addr×ByteArray×Int×Int×Int×Bool))=>iI Tryz.prog (Instr.storeAt qA (.pointer (some ⟨H.size,0,none⟩)) (.agg #[(.pointer x.1),(.string x.2.1),(.int .i64 x.2.2.1),(.int .i64 x.2.2.2.1),(.int .i64 x.2.2.2.2.1),(.bool x.2.2.2.2.2)])) H3 fun H6=>db (bq [ar,bK,(ab .i64),(ab .i64),(ab .i64),aw]) 6 H6 ⟨H.size,0,none⟩ fun(res:(Option Addr×ByteArray×Int×Int×Int×Bool))=>K ((res.1,res.2.1,res.2.2.1,res.2.2.2.1,res.2.2.2.2.1,res.2.2.2.2.2),e) H6:=by
  intro e hk
  refine ag.db (x:=(pp,n,w,aU w,0,false)) r3 rfl rfl ?_
  refine ag.kM (cs:=Bm pp n w) r13 k9 qF (oa _ _ _) fun H4 r4 m4 z4=>?_
  refine ag.db (x:=(pp,n,w,aU w,0,false)) r4 rfl rfl ?_
  exact hk H4 ⟨by have:=m4.size;have:=e3.size;omega,fun b hb _=>(m4.same b (by have:=e3.size;omega) (by intro q;have:b=H.size:=q;omega)).trans (e3.same b hb id)⟩
 refine⟨fun _ A=>A=H3∧pp.isNone=false∧¬aU w=0,?_,?_⟩
 ·refine aj (fun hc=>?_) (fun hc=>?_)
  ·rw[if_pos hc] at hK
   exact fin 1 hK
  ·rw[if_neg (by rw[hc];simp)] at hK
   refine ag.ld (c:=ab .i64) (i:=3) (x:=aU w) r3 rfl ?_
   refine aj (fun hc2=>?_) (fun hc2=>?_)
   ·rw[if_pos (by simpa using hc2)] at hK
    exact fin 60 hK
   ·exact⟨rfl,hc,by simpa using hc2⟩
 ·rintro _ A ⟨rfl,h1,h2⟩
  rw[if_neg (by rw[h1];simp),if_neg h2] at hK
  exact fin 0 hK
def dr:Sl:=Sl.mk none 0 0
theorem bE (b:Nat):¬ai dr b:=by rintro⟨ad,q,_⟩;cases q
variable {F:Nat→Prop} {H:aa} {p dp:Nat} {s:Pl} {n:ByteArray} {W:Int} {K:(Option Addr×Int)→aa→Prop}
theorem xN [Tab] (hg:Gl H) (hp:al F H p dp s) (hn:n.size≤9223372036854775807) (hlogs:s.d.aH<68719470000) (hnx:s.next<1099511627776) (h0:0≤s.next) (hfit:s.Fit)
  (hK0:∀F' H',al F' H' p dp (bo s n W).1→Step F F' H H'→(bo s n W).2.1=none→K (none,(bo s n W).2.2) H')
  (hK1:∀F' H' k w,al F' H' p dp (bo s n W).1→Step F F' H H'→(bo s n W).2.1=some w→pI H' k p w dr dr→H.size≤k→¬F' k→K (aI k,(bo s n W).2.2) H'):Fm.sp (aI p) n W H K:=by
 refine Fm.of ?_
 unfold Fm.vc
 refine uL (e:=if aU W=0 then 60 else 0) (if_neg (by unfold aI;simp)) fun H1 e1=>?_
 refine ak fun H2 z2 r2 e2=>?_
 refine ag.kM (cs:=Bm (aI p) n W) r2 k9 qF (oa _ _ _) fun H3 r3 m3 z3=>?_
 have e3:Ext H H3:=⟨by have:=m3.size;have:=e1.size;omega,fun b hb _=>(m3.same b (by have:=e1.size;omega) (by intro q;have:b=H1.size:=q;have:=e1.size;omega)).trans ((e2.same b (by have:=e1.size;omega) id).trans (e1.same b hb id))⟩
 have p3:=hp.ext e3
 have g3:Gl H3:=hg.mod e3 id
 have S3:Step F F H H3:=⟨e3.mod,fun b q=>.inl q⟩
 have z13:=e1.size
 have hk:¬F H1.size:=fun q=>by have:=hp.lt _ q;omega
 by_cases hr:aU W=0
 ·simp only[if_pos hr]
  have em:bo s n W=(s,none,60):=if_pos hr
  rw[em] at hK0
  refine aA rfl ?_
  refine⟨fun e A=>e=60∧A=H3,aA rfl ⟨rfl,rfl⟩,?_⟩
  rintro _ A ⟨rfl,rfl⟩
  exact aZ rfl (hK0 F A p3 S3 rfl)
 simp only[if_neg hr]
 refine aZ rfl ?_
 refine xR p3 ?_
 obtain⟨D,d1,_,d3⟩:=al.gW g3 p3
 refine Cv d1 fun D' H4 d4 S4=>?_
 obtain⟨F4,p4,T4⟩:=d3 D' H4 _ d4 S4
 have em:bo s n W=if (s.d.create n).2≠0 then (s.bF (s.d.create n).1,none,(s.d.create n).2)
   else if ((s.bF (s.d.create n).1).more n 0 []).2≠0 then (((s.bF (s.d.create n).1).more n 0 []).1,none,((s.bF (s.d.create n).1).more n 0 []).2)
   else (((s.bF (s.d.create n).1).more n 0 []).1,some (vi n W),0):=by unfold bo;rw[if_neg hr]
 have hl4:(s.bF (s.d.create n).1).d.aH<68719470000:=by have:=s.d.pO n;show (s.d.create n).1.aH<_;omega
 have hf4:(s.bF (s.d.create n).1).Fit:=hfit.bF (s.d.nJ n)
 have hn4:(s.bF (s.d.create n).1).next=s.next:=rfl
 generalize s.bF (s.d.create n).1=s4 at*
 generalize (s.d.create n).2=e4 at*
 have hk4:¬F4 H1.size:=fun q=>by
  rcases T4.own _ q with r|r
  ·exact hk r
  ·omega
 have b4:bz H4 H1.size qA p ⟨n,W,0,false⟩ []:=(show bz H3 H1.size qA p ⟨n,W,0,false⟩ [] from r3).mod T4.mod hk
 have T4':=S3.trans T4
 have g4:Gl H4:=g3.mod T4.mod p3.fF
 obtain⟨X,hX⟩:∃X:Pl×Int,X=if e4≠0 then (s4,e4) else s4.more n 0 []:=⟨_,rfl⟩
 have em':bo s n W=if X.2≠0 then (X.1,none,X.2) else (X.1,some (vi n W),0):=by
  rw[em,hX]
  by_cases q:e4≠0
  ·rw[if_pos q,if_pos q,if_pos q]
  ·rw[if_neg q,if_neg q]
 refine⟨fun e A=>e=X.2∧∃F',al F' A p dp X.1∧Step F F' H A∧bz A H1.size qA p ⟨n,W,0,false⟩ [],?_,?_⟩
 ·refine aj (fun hc=>?_) (fun hc=>?_)
  ·have q:¬e4≠0:=by simpa using hc
   rw[if_neg q] at hX
   refine AD (kd:=0) (sl:=Sl.mk none 0 0) (l:=[]) g4 b4 p4 hk4 ⟨rfl,Reads.nil _ _⟩ (by intro ad q;cases q) hn hl4 (by omega) (by omega) hf4 fun F5 H5 p5 S5=>?_
   rw[hX]
   exact⟨rfl,F5,p5,T4'.trans S5,b4.mod S5.mod hk4⟩
  ·have q:e4≠0:=by simpa using hc
   rw[if_pos q] at hX
   rw[hX]
   exact⟨rfl,F4,p4,T4',b4⟩
 rintro _ A ⟨rfl,F5,p5,S5,b5⟩
 rw[em'] at hK0 hK1
 refine aj (fun hc=>?_) (fun hc=>?_)
 ·have q:X.2≠0:=by simpa using hc
  rw[if_pos q] at hK0
  exact hK0 F5 A p5 S5 rfl
 ·have q:¬X.2≠0:=by simpa using hc
  rw[if_neg q] at hK1
  refine ag.db (x:=(aI p,n,W,aU W,0,false)) b5 rfl rfl ?_
  refine ak fun H6 z6 r6 e6=>?_
  have:=S5.mod.size
  refine hK1 F5 H6 A.size (vi n W) (p5.ext e6) ⟨S5.mod.trans' e6 fun b _ q=>q.elim,S5.own⟩ rfl ⟨r6,bc.nil _ _ _,au.nil _ _ _ _⟩ (by omega) fun q=>by have:=p5.lt _ q;omega
end Go.Proofs.YtacfhncgbgijhaaGreat
namespace Go.Proofs.YtacfhncgbgijhaaGreat
open Go.MapKept
def ks:Option Nat→Int
 |none=>-1
 |some k=>(k:Int)
structure ux (H:aa) (k p:Nat) (r:RR) (si:Sl) (rs:List Sl):Prop where
 row:bz H k Kv p r.b [.int .i64 (r.rows:Int),.int .i64 (r.at_:Int),.int .i64 (ks r.page),si.v]
 ins:ax H 0 si rs r.ins
def nu (k:Nat) (si:Sl) (rs:List Sl) (b:Nat):Prop:=b=k∨ai si b∨∃x∈rs,ai x b
section
variable {H:aa} {k p:Nat} {r:RR} {si:Sl} {rs:List Sl}
theorem ux.lt [Tab] (h:ux H k p r si rs):∀b,nu k si rs b→b<H.size:=by
 rintro b (rfl|q|⟨x,hx,q⟩)
 ·exact aL h.row
 ·exact(h.ins.block.1 b q).2
 ·exact(h.ins.block.2 x hx b q).2
theorem ux.mod [Tab] {G:Nat→Prop} {H':aa} (h:ux H k p r si rs) (m:Mod G H H') (hn:∀b,nu k si rs b→¬G b):ux H' k p r si rs:=
 ⟨h.row.mod m (hn k (.inl rfl)),h.ins.mod m (fun b hb=>hn b (.inr (.inl hb))) fun x hx b hb=>hn b (.inr (.inr ⟨x,hx,hb⟩))⟩
theorem ux.I1 [Tab] (h:ux H k p r si rs):¬ai si k:=fun q=>by
 obtain⟨cur,hc⟩:=h.ins.out.obj k q
 exact absurd (aR hc h.row) (by decide)
theorem ux.v7 (h:ux H k p r si rs):∀x∈rs,¬ai x k:=fun x hx q=>by
 obtain⟨l,hl⟩:=h.ins.rowAt hx
 obtain⟨cur,hc⟩:=hl.obj k q
 exact absurd (aR hc h.row) (by decide)
end
structure iR (H0:aa) (F0 O0:Nat→Prop) (k p dp:Nat) (si:Sl) (rs:List Sl) (F:Nat→Prop) (A:aa) (s:Pl) (r:RR):Prop where
 pool:al F A p dp s
 rd:ux A k p r si rs
 dis:∀b,F b→¬nu k si rs b
 mod:Mod (fun b=>F0 b∨b=k) H0 A
 own:∀b,F b→F0 b∨H0.size≤b
 own2:∀b,nu k si rs b→O0 b∨H0.size≤b
section
variable {H0:aa} {F0 O0:Nat→Prop} {k p dp:Nat} {si:Sl} {rs:List Sl} {F:Nat→Prop} {A:aa} {s:Pl} {r:RR}
theorem iR.step [Tab] {F':Nat→Prop} {A':aa} {s':Pl} (h:iR H0 F0 O0 k p dp si rs F A s r) (hp:al F' A' p dp s') (S:Step F F' A A'):iR H0 F0 O0 k p dp si rs F' A' s' r:=by
 refine⟨hp,h.rd.mod S.mod fun b hb q=>h.dis b q hb,fun b hb q=>?_,h.mod.trans' S.mod fun b hb q=>?_,fun b hb=>?_,h.own2⟩
 ·rcases S.own b hb with r|r
  ·exact h.dis b r q
  ·have:=h.rd.lt b q;omega
 ·rcases h.own b q with r|r
  ·exact .inl r
  ·omega
 ·rcases S.own b hb with r|r
  ·exact h.own b r
  ·right;have:=h.mod.size;omega
theorem iR.ext [Tab] {A':aa} (h:iR H0 F0 O0 k p dp si rs F A s r) (e:Ext A A'):iR H0 F0 O0 k p dp si rs F A' s r:=h.step (h.pool.ext e) ⟨e.mod,fun _ q=>.inl q⟩
theorem iR.gl [Tab] (h:iR H0 F0 O0 k p dp si rs F A s r) (hg:Gl H0) (h1:¬F0 aY) (h2:aY≠k):Gl A:=hg.aq (h.mod.same _ hg.lt fun q=>q.elim h1 h2)
theorem iR.dX [Tab] {A':aa} {r':RR} {si':Sl} {rs':List Sl} (h:iR H0 F0 O0 k p dp si rs F A s r) (m:Mod (fun b=>b=k) A A') (hr:ux A' k p r' si' rs') (hs:∀b,nu k si' rs' b→nu k si rs b∨(H0.size≤b∧¬F b)):iR H0 F0 O0 k p dp si' rs' F A' s r':=by
 refine⟨h.pool.aq fun b hb hl=>m.same b hl fun q=>h.dis b hb (.inl q),hr,fun b hb q=>?_,h.mod.trans' m fun b _ q=>.inr q,h.own,fun b q=>?_⟩
 ·rcases hs b q with u|u
  ·exact h.dis b hb u
  ·exact u.2 hb
 ·rcases hs b q with u|u
  ·exact h.own2 b u
  ·exact .inr u.1
theorem iR.dE [Tab] {e:Int} {K:Int→aa→Prop} (h:iR H0 F0 O0 k p dp si rs F A s r) (hK:∀A',iR H0 F0 O0 k p dp si rs F A' s {r with b:=r.b.dE e}→A.size≤A'.size→K e A'):AB.sp (aI k) e A K:=by
 refine oy h.rd.row fun A' r' m' z'=>hK A' (h.dX m' ⟨r',h.rd.ins.mod m' (fun b hb q=>h.rd.I1 (q▸hb)) fun x hx b hb q=>h.rd.v7 x hx (q▸hb)⟩ fun b q=>.inl q) (Nat.le_of_eq z'.symm)
theorem ud {b:List Int} {w:Int}:∀l∈lA b w,l.length≤16:=by
 unfold lA
 split
 ·rename_i h
  unfold fu at h
  simp only[Bool.and_eq_true,decide_eq_true_eq] at h
  have hw:w≤16:=by
   have h1:=h.1.1
   unfold bJ at h1
   split at h1
   ·exact absurd rfl h1
   ·omega
  intro l hl
  obtain⟨k,_,rfl⟩:=List.mem_map.1 hl
  rw[mM];omega
 ·simp
structure RR.Ok [Tab] (r:RR):Prop where
 room:0<r.b.room
 at_:r.at_≤r.rows
 page:∀j,r.page=some j→r.ins.length=min r.b.room (r.rows - j*r.b.room)
 rows:r.rows≤528482304
 cols:∀l∈r.ins,l.length≤16
theorem gm [Tab] (b:Rb):aU b.width=(b.room:Int)∧b.room≤504:=by
 unfold Rb.room
 have h:=gS b.width
 have h0:0≤aU b.width∧aU b.width≤504:=by
  unfold aU
  split
  ·omega
  ·refine⟨Int.tdiv_nonneg (by omega) (by omega),Int.tdiv_le_self _ (by omega)⟩
 omega
theorem Rb.jR [Tab] (b:Rb) (e:Int):(b.dE e).room=b.room∧(b.dE e).width=b.width∧(b.dE e).name=b.name:=by
 unfold Rb.dE;split<;>exact⟨rfl,rfl,rfl⟩
theorem RR.qu [Tab] {j:Nat} (h:r.Ok):(r.load s j).2.1.Ok∧(r.load s j).2.1.rows=r.rows∧(r.load s j).2.1.at_=r.at_∧(r.load s j).2.1.b.width=r.b.width∧(r.load s j).2.1.b.name=r.b.name∧((r.load s j).2.2=0→(r.load s j).2.1.b=r.b∧(r.load s j).2.1.page=some j):=by
 unfold RR.load
 split
 ·rename_i hp
  exact⟨h,rfl,rfl,rfl,rfl,fun _=>⟨rfl,hp⟩⟩
 ·split
  ·rename_i _ he
   obtain⟨b1,b2,b3⟩:=r.b.jR (s.look r.b.name ((j:Int)+1)).2.2.2
   exact⟨⟨by simp only[b1];exact h.room,h.at_,by simp only[b1];exact h.page,h.rows,h.cols⟩,rfl,rfl,b2,b3,fun q=>absurd q he⟩
  ·split
   ·rename_i hf
    refine⟨⟨h.room,h.at_,fun i hi=>?_,h.rows,ud⟩,rfl,rfl,rfl,rfl,fun _=>⟨rfl,rfl⟩⟩
    simp only at hi
    cases hi
    unfold RR.fits at hf
    simp only[Bool.and_eq_true,decide_eq_true_eq] at hf
    exact hf.2
   ·obtain⟨b1,b2,b3⟩:=r.b.jR 280
    exact⟨⟨by simp only[b1];exact h.room,h.at_,by simp only[b1];exact h.page,h.rows,h.cols⟩,rfl,rfl,b2,b3,fun q=>by simp at q⟩
set_option maxHeartbeats 1000000 in
theorem EI [Tab] {j:Nat} {K:Int→aa→Prop} (hg:Gl H0) (hF0:¬F0 aY) (hk0:aY≠k) (h:iR H0 F0 O0 k p dp si rs F A s r) (ok:r.Ok) (hj:j*r.b.room≤r.rows) (hj2:j<1099511627776)
  (hn:r.b.name.size≤9223372036854775807) (hlogs:s.d.aH<68719470000) (hnx:s.next<1099511627776) (h0:0≤s.next)
  (hK:∀F' si' rs' A',iR H0 F0 O0 k p dp si' rs' F' A' (r.load s j).1 (r.load s j).2.1→A.size≤A'.size→K (r.load s j).2.2 A'):HU.sp (aI k) (j:Int) A K:=by
 refine HU.of ?_
 unfold HU.vc
 unfold aI
 simp only[av]
 obtain⟨rm1,rm2⟩:=gm r.b
 unfold RR.load at hK
 refine ag.ld (c:=ab .i64) (i:=8) (x:=ks r.page) h.rd.row (bz.tail (j:=2) rfl) ?_
 by_cases hp:r.page=some j
 ·rw[if_pos hp] at hK
  refine aZ (by rw[hp];simp[ks]) ?_
  exact hK F si rs A h (Nat.le_refl _)
 rw[if_neg hp] at hK
 refine aA ?_ ?_
 ·cases e:r.page with
  |none=>simp only[ks,beq_eq_false_iff_ne,ne_eq];omega
  |some i=>
    have:i≠j:=fun q=>hp (by rw[e,q])
    simp only[ks,beq_eq_false_iff_ne,ne_eq];omega
 rw[aP j (by omega)]
 refine xW (h.gl hg hF0 hk0) h.rd.row h.pool (fun q=>h.dis k q (.inl rfl)) (by omega) hn hlogs hnx h0 fun F1 A1 sl p1 S1 o1 f1 hb1=>?_
 have e1:((j+1:Nat):Int)=(j:Int)+1:=by omega
 rw[e1] at p1 o1 hb1 ⊢
 have B1:=h.step p1 S1
 generalize (s.look r.b.name ((j:Int)+1)).1=s1 at*
 generalize (s.look r.b.name ((j:Int)+1)).2.1=kd at*
 generalize (s.look r.b.name ((j:Int)+1)).2.2.1=b at*
 generalize (s.look r.b.name ((j:Int)+1)).2.2.2=e at*
 refine aj (fun hc=>?_) (fun hc=>?_)
 ·have e0:e≠0:=by simpa using hc
  rw[if_pos e0] at hK
  exact B1.dE fun A2 B2 z2=>hK F1 si rs A2 B2 (Nat.le_trans S1.mod.size z2)
 have e0:¬e≠0:=by simpa using hc
 rw[if_neg e0] at hK
 refine ag.ld (c:=ab .i64) (i:=2) (x:=r.b.width) B1.rd.row (bz.get 2 _ rfl) ?_
 refine uK (b:=ie b) (gY o1) o1.cap (fun x hx=>?_) (by rw[rP];omega) fun sr rs2 A2 ro e2=>?_
 ·unfold ie at hx
  obtain⟨c,_,rfl⟩:=List.mem_map.1 hx
  have:=c.toNat_lt;omega
 have B2:=B1.ext e2
 have hfit:r.fits j kd b=true↔(kd=1∧tE (ie b) r.b.width=0∧(lA (ie b) r.b.width).length=min r.b.room (r.rows - j*r.b.room)):=by
  unfold RR.fits tE
  simp only[Bool.and_eq_true,beq_iff_eq,decide_eq_true_eq]
  cases fu (ie b) r.b.width<;>simp
 refine aj (fun hc=>?_) (fun hc=>?_)
 ·have hnf:¬r.fits j kd b=true:=fun q=>by
   obtain⟨q1,q2,_⟩:=hfit.1 q
   rw[q2,q1] at hc
   simp at hc
  rw[if_neg hnf] at hK
  exact B2.dE fun A3 B3 z3=>hK F1 si rs A3 B3 (by have:=S1.mod.size;have:=e2.size;omega)
 have hkd:kd=1∧tE (ie b) r.b.width=0:=by
  simp only[Bool.or_eq_false_iff,bne_eq_false_iff_eq] at hc
  refine⟨?_,hc.2⟩
  have:kd.toNat=1:=by omega
  exact UInt8.toNat_inj.1 this
 refine ag.ld (c:=ab .i64) (i:=3) (x:=aU r.b.width) B2.rd.row (bz.get 3 _ rfl) ?_
 refine ag.ld (c:=ab .i64) (i:=6) (x:=(r.rows:Int)) B2.rd.row (bz.tail (j:=0) rfl) ?_
 refine ag.ld (c:=ab .i64) (i:=3) (x:=aU r.b.width) B2.rd.row (bz.get 3 _ rfl) ?_
 have hjr:(j:Int)*(r.b.room:Int)=((j*r.b.room:Nat):Int):=by simp
 have hw1:IntKind.i64.wrap ((j:Int)*aU r.b.width)=((j*r.b.room:Nat):Int):=by
  rw[rm1,hjr];have:=ok.rows;exact wrap64 (by omega) (by omega)
 have hw2:IntKind.i64.wrap ((r.rows:Int) - ((j*r.b.room:Nat):Int))=((r.rows - j*r.b.room:Nat):Int):=by
  have:=ok.rows;rw[wrap64 (by omega) (by omega)];omega
 rw[hw1,hw2,rm1,ro.n]
 have hmin:(if ((r.rows - j*r.b.room:Nat):Int)<(r.b.room:Int) then ((r.rows - j*r.b.room:Nat):Int) else (r.b.room:Int))=((min r.b.room (r.rows - j*r.b.room):Nat):Int):=by
  split<;>omega
 rw[hmin]
 refine aj (fun hc=>?_) (fun hc=>?_)
 ·have hnf:¬r.fits j kd b=true:=fun q=>by
   obtain⟨_,_,q3⟩:=hfit.1 q
   rw[q3] at hc
   simp at hc
  rw[if_neg hnf] at hK
  exact B2.dE fun A3 B3 z3=>hK F1 si rs A3 B3 (by have:=S1.mod.size;have:=e2.size;omega)
 have hln:((lA (ie b) r.b.width).length:Int)=((min r.b.room (r.rows - j*r.b.room):Nat):Int):=by simpa only[bne_eq_false_iff_eq] using hc
 have hf:r.fits j kd b=true:=hfit.2 ⟨hkd.1,hkd.2,Int.ofNat.inj hln⟩
 rw[if_pos hf] at hK
 refine ag.st B2.rd.row (i:=8) (by simp[bZ]) rfl fun A3 r3 m3 z3=>?_
 refine ag.st r3 (i:=9) (by simp[bZ]) rfl fun A4 r4 m4 z4=>?_
 have m24:=m3.trans m4
 have r4':bz A4 k Kv p r.b [.int .i64 (r.rows:Int),.int .i64 (r.at_:Int),.int .i64 (ks (some j)),sr.v]:=by
  have e:((bZ p r.b++[.int .i64 (r.rows:Int),.int .i64 (r.at_:Int),.int .i64 (ks r.page),si.v]).toArray.setIfInBounds 8 (.int .i64 (j:Int))).setIfInBounds 9 sr.v=(bZ p r.b++[.int .i64 (r.rows:Int),.int .i64 (r.at_:Int),.int .i64 (ks (some j)),sr.v]).toArray:=by
   simp[bZ,ks]
  rw[e] at r4;exact r4
 have hbl:=ro.block
 have hk1:k<A1.size:=aL B1.rd.row
 have hz1:=B1.mod.size
 have ro0:ax A2 0 sr rs2 (lA (ie b) r.b.width):=⟨ro.out.Ar,ro.len,fun i x l h1 h2=>(ro.row i x l h1 h2).Ar,ro.apart⟩
 have rn:ux A4 k p {r with page:=some j,ins:=lA (ie b) r.b.width} sr rs2:=
  ⟨r4',ro0.mod m24 (fun b hb q=>by have:=(hbl.1 b hb).1;omega) fun x hx b hb q=>by have:=(hbl.2 x hx b hb).1;omega⟩
 refine hK F1 sr rs2 A4 (B2.dX m24 rn fun b hb=>?_) (by have:=S1.mod.size;have:=e2.size;have:=m24.size;omega)
 rcases hb with q|q|⟨x,hx,q⟩
 ·exact .inl (.inl q)
 ·have:=(hbl.1 b q).1
  exact .inr ⟨by omega,fun u=>by have:=p1.lt b u;omega⟩
 ·have:=(hbl.2 x hx b q).1
  exact .inr ⟨by omega,fun u=>by have:=p1.lt b u;omega⟩
theorem tX [Tab] {K:(Sl×Bool×Int)→aa→Prop} (hg:Gl H0) (hF0:¬F0 aY) (hk0:aY≠k) (h:iR H0 F0 O0 k p dp si rs F A s r) (ok:r.Ok)
  (hn:r.b.name.size≤9223372036854775807) (hlogs:s.d.aH<68719470000) (hnx:s.next<1099511627776) (h0:0≤s.next)
  (hK:∀F' si' rs' A' l,iR H0 F0 O0 k p dp si' rs' F' A' (r.next s).1 (r.next s).2.1→au A' 0 fx 1 l ((r.next s).2.2.1.map (Value.int .u64))→(∀b,ai l b→A.size≤b∧¬F' b∧¬nu k si' rs' b)→((r.next s).2.2.2.1=false→l=Sl.mk none 0 0)→K (l,(r.next s).2.2.2.1,(r.next s).2.2.2.2) A'):CO.sp (aI k) A K:=by
 refine CO.of ?_
 unfold CO.vc
 unfold aI
 refine aA rfl ?_
 simp only[av]
 obtain⟨rm1,rm2⟩:=gm r.b
 unfold RR.next at hK
 refine pf h.rd.row ?_
 refine aj (fun hc=>?_) (fun hc=>?_)
 ·have e0:r.b.ready≠0:=by simpa using hc
  rw[if_pos e0] at hK
  exact hK F si rs A _ h (au.nil _ _ _ _) (fun b q=>absurd q (bE b)) (fun _=>rfl)
 have e0:¬r.b.ready≠0:=by simpa using hc
 have e0':r.b.ready=0:=by omega
 rw[if_neg e0] at hK
 refine ag.ld (c:=ab .i64) (i:=7) (x:=(r.at_:Int)) h.rd.row (bz.tail (j:=1) rfl) ?_
 refine ag.ld (c:=ab .i64) (i:=6) (x:=(r.rows:Int)) h.rd.row (bz.tail (j:=0) rfl) ?_
 refine aj (fun hc=>?_) (fun hc=>?_)
 ·have e1 : r.at_ = r.rows := by have : (r.at_ : Int) = (r.rows : Int) := by simpa using hc
                                 omega
  rw[if_pos e1] at hK
  rw[e0']
  exact hK F si rs A _ h (au.nil _ _ _ _) (fun b q=>absurd q (bE b)) (fun _=>rfl)
 have e1:¬r.at_=r.rows:=fun q=>by rw[q] at hc;simp at hc
 rw[if_neg e1] at hK
 have hat:r.at_<r.rows:=by have:=ok.at_;omega
 refine ag.ld (c:=ab .i64) (i:=7) (x:=(r.at_:Int)) h.rd.row (bz.tail (j:=1) rfl) ?_
 refine ag.ld (c:=ab .i64) (i:=3) (x:=aU r.b.width) h.rd.row (bz.get 3 _ rfl) ?_
 have hrm:=ok.room
 have hrw:=ok.rows
 rw[rm1]
 refine⟨by omega,?_⟩
 have hdiv:IntKind.i64.wrap (Int.tdiv (r.at_:Int) (r.b.room:Int))=((r.at_/r.b.room:Nat):Int):=by
  have h1:Int.tdiv (r.at_:Int) (r.b.room:Int)=((r.at_/r.b.room:Nat):Int):=rfl
  have h2:=Nat.div_le_self r.at_ r.b.room
  rw[h1];generalize r.at_/r.b.room=q at h2 ⊢;exact wrap64 (by omega) (by omega)
 rw[hdiv]
 have hq1:=Nat.div_mul_le_self r.at_ r.b.room
 have hq2:=Nat.div_le_self r.at_ r.b.room
 refine EI hg hF0 hk0 h ok (by omega) (by omega) hn hlogs hnx h0 fun F1 si1 rs1 A1 B1 hz=>?_
 obtain⟨k1,k2,k3,k4,_,k6⟩:=RR.qu (s:=s) (j:=r.at_/r.b.room) ok
 generalize (r.load s (r.at_/r.b.room)).1=s1 at*
 generalize (r.load s (r.at_/r.b.room)).2.1=r1 at*
 generalize (r.load s (r.at_/r.b.room)).2.2=e2 at*
 refine aj (fun hc=>?_) (fun hc=>?_)
 ·have e3:e2≠0:=by simpa using hc
  rw[if_pos e3] at hK
  exact hK F1 si1 rs1 A1 _ B1 (au.nil _ _ _ _) (fun b q=>absurd q (bE b)) (fun _=>rfl)
 have e3:¬e2≠0:=by simpa using hc
 rw[if_neg e3] at hK
 obtain⟨k7,k8⟩:=k6 (by omega)
 have hlen:=k1.page _ k8
 rw[k7,k2] at hlen
 have hm:=Nat.mod_lt r.at_ hrm
 have hdm:=Nat.div_add_mod r.at_ r.b.room
 have hmc:r.b.room*(r.at_/r.b.room)=r.at_/r.b.room*r.b.room:=Nat.mul_comm _ _
 have hin:r.at_%r.b.room<r1.ins.length:=by rw[hlen];omega
 refine ag.ld (c:=an) (i:=9) (x:=si1) B1.rd.row (bz.tail (j:=3) rfl) ?_
 refine ag.ld (c:=ab .i64) (i:=7) (x:=(r1.at_:Int)) B1.rd.row (bz.tail (j:=1) rfl) ?_
 refine ag.ld (c:=ab .i64) (i:=3) (x:=aU r1.b.width) B1.rd.row (bz.get 3 _ rfl) ?_
 rw[k7,rm1,k3]
 refine⟨by omega,?_⟩
 have hmod:Int.tmod (r.at_:Int) (r.b.room:Int)=((r.at_%r.b.room:Nat):Int):=rfl
 rw[hmod]
 refine B1.rd.ins.rows.ld hin fun ad x ha hx=>?_
 have hcol:=k1.cols _ (List.getElem_mem hin)
 refine oM hx (by omega) fun l A2 o2 x2 f2=>?_
 have B2:=B1.ext x2
 refine ag.ld (c:=ab .i64) (i:=7) (x:=(r1.at_:Int)) B2.rd.row (bz.tail (j:=1) rfl) ?_
 refine ag.st B2.rd.row (i:=7) (by simp[bZ]) rfl fun A3 r3 m3 z3=>?_
 rw[k3,aP r.at_ (by omega)] at r3
 have r3':bz A3 k Kv p r1.b [.int .i64 (r1.rows:Int),.int .i64 ((r.at_+1:Nat):Int),.int .i64 (ks r1.page),si1.v]:=by
  have e:(bZ p r1.b++[.int .i64 (r1.rows:Int),.int .i64 (r.at_:Int),.int .i64 (ks r1.page),si1.v]).toArray.setIfInBounds 7 (.int .i64 ((r.at_+1:Nat):Int))=(bZ p r1.b++[.int .i64 (r1.rows:Int),.int .i64 ((r.at_+1:Nat):Int),.int .i64 (ks r1.page),si1.v]).toArray:=by
   simp[bZ]
  rw[e] at r3;exact r3
 have B3:iR H0 F0 O0 k p dp si1 rs1 F1 A3 s1 {r1 with at_:=r.at_+1}:=B2.dX m3 ⟨r3',B2.rd.ins.mod m3 (fun b hb q=>B2.rd.I1 (q▸hb)) fun x hx b hb q=>B2.rd.v7 x hx (q▸hb)⟩ fun b q=>.inl q
 have hlt1:∀b,nu k si1 rs1 b→b<A1.size:=B1.rd.lt
 have hk1:k<A1.size:=hlt1 k (.inl rfl)
 refine hK F1 si1 rs1 A3 l B3 ?_ (fun b hb=>?_) fun u=>(by cases u)
 ·have eg:r1.ins.getD (r.at_%r.b.room) []=r1.ins[r.at_%r.b.room]:=by rw[List.getD,List.getElem?_eq_getElem hin];rfl
  rw[eg]
  exact o2.mod m3 fun b hb q=>by have:=f2 b hb;omega
 ·have:=f2 b hb
  exact⟨by omega,fun q=>by have:=B1.pool.lt b q;omega,fun q=>by have:=hlt1 b q;omega⟩
theorem C4 [Tab] {K:(Sl×Bool×Int)→aa→Prop} (hg:Gl H0) (hF0:¬F0 aY) (hk0:aY≠k) (h:iR H0 F0 O0 k p dp si rs F A s r) (ok:r.Ok)
  (hn:r.b.name.size≤9223372036854775807) (hlogs:s.d.aH<68719470000) (hnx:s.next<1099511627776) (h0:0≤s.next)
  (hK:∀F' si' rs' A' l,iR H0 F0 O0 k p dp si' rs' F' A' (r.next s).1 (r.next s).2.1→au A' 0 fx 1 l ((r.next s).2.2.1.map (Value.int .u64))→(∀b,ai l b→A.size≤b∧¬F' b∧¬nu k si' rs' b)→K (l,(r.next s).2.2.2.1,(r.next s).2.2.2.2) A'):CO.sp (aI k) A K:=
 tX hg hF0 hk0 h ok hn hlogs hnx h0 fun F' si' rs' A' l a b c _=>hK F' si' rs' A' l a b c
end
end Go.Proofs.YtacfhncgbgijhaaGreat
