/-
 The document's disk: Remove, Rename, Len, Read, Sync, Write.
-/
import Derived.Test.YtdpdmbceakdlmaaGreatDoorDrc
open Bool renaming or_eq_true->LL,or_eq_false_iff->Mg,false_eq_true->MI
open Go.Proofs.Tryz renaming prog->KE
open List renaming mem_of_getElem?->KH,getElem?_eq_some_iff->KI
namespace Go.Proofs.YtdpdmbceakdlmaaGreatDoor
open Go.MapKept
theorem yx {H:Heap}{fl:Sl}{l:List (ByteArray×Sl×Sl)}(h:aK rU uA H fl l){i j:Nat}{x y:ByteArray×Sl×Sl}{v:Value}(hi:l[i]?=some x)(hj:j<3)(hp:jN v=true)(hy:rU.enc y=(rU.enc x).set j v){K:Heap->Prop}
  (hK:∀H',aK rU uA H' fl (l.set i y)->Mod (al fl) H H'->H'.size=H.size->K H'):ab fl.a λa=>(0<=(i:Int)/\(i:Int)<(fl.n:Int))/\st H ((a.add ((i:Int).toNat*3)).add j) v K:=by
 have hil:=(KI.1 hi).1
 have hn:=h.n (by decide)
 obtain⟨ad,ha⟩:=cS.addr h.rd (by decide) (by omega)
 rw[ha]
 refine⟨⟨by omega,by omega⟩,?_⟩
 exact aK.st (E:=rU) h ha hi hj hp hy (by simp[rU]) hK
theorem aO.fV {H:Heap}{fl:Sl}{gs:List (Sl×Sl)}{fs:List Fl}(h:aO H fl gs fs){i:Nat}{g:Sl×Sl}(hg:gs[i]?=some g):∀b,(al g.1 b\/al g.2 b)->¬al fl b:=by
 intro b hb hfb
 obtain⟨_,_,q1,q2⟩:=h.vo hg
 rcases hb with hb|hb
 ·exact(q1.apart h.arr (by decide)) b hb hfb
 ·exact(q2.apart h.arr (by decide)) b hb hfb
theorem nc {F:Nat->Prop}{d:Nat}{s:Dk}{H:Heap}{n:ByteArray}{K:(Int×Int)->Heap->Prop}(h:cr F H d s)(hlogs:s.logs<68719476736)(hK:∀H',Mod (λ_=>False) H H'->K ((s.len n).1,(s.len n).2) H'):Bp.sp (aD d) n H K:=by
 obtain⟨fl,gs,cin,kp,g,_⟩:=h
 refine Bp.of ?_
 unfold Bp.vc
 simp only[aq]
 refine nk g.head rfl g.files g.wf.files ?_
 refine g.head.ld (c:=aA) (i:=8) (x:=s.down) rfl ?_
 refine ae (λhd=>?_) (λhd=>?_)
 ·have e:s.len n=(0,4):=by unfold Dk.len Dk.open;rw[hd];rfl
  rw[e] at hK;exact hK H (.refl _ _)
 ·rw[ng]
  cases hi:s.idx n with
  |none=>
    have e:s.len n=(0,11):=by unfold Dk.len Dk.open;rw[hd,hi];rfl
    rw[e] at hK;exact hK H (.refl _ _)
  |some i=>
    refine aw rfl ?_
    obtain⟨f,hf,_⟩:=Dk.cY hi
    obtain⟨gg,hg,q1,q2⟩:=g.files.zN hf
    have hx:mR s n=(i:Int):=by unfold mR;rw[hi]
    rw[hx]
    refine g.head.ld (c:=av) (i:=0) (x:=fl) rfl ?_
    refine g.files.I2 hf hg ?_
    have hpl:=Dk.eH hf;have hll:=Dk.jy hf
    have w1:=g.wf.used;have w2:=g.wf.most;have w3:=g.wf.quota
    refine kJ q1 q2 (by omega) (by omega) λl H2 o2 m2 _=>?_
    have e:s.len n=(f.au.length,0):=by unfold Dk.len Dk.open;rw[hd,hi];simp[Dk.dd hf]
    rw[e] at hK
    rw[o2.n (by decide)]
    exact hK H2 m2
theorem kf {b:List UInt8}{H:Heap}{K:Sl->Heap->Prop}(hK:∀s' H',bG H' s' b->Mod (λ_=>False) H H'->(∀q,al s' q->H.size<=q)->s'.n<=s'.c->K s' H'):
  bt av KE (convert iA dM (.string (cu b))) H K:=by
 intro w hw
 subst hw
 have hr:=run_bytes_of_string (P:=KE) w iA dM dF (cu b) (by kernel_rfl) (by kernel_rfl) (by kernel_rfl)
 have hsz:(cu b).size=b.length:=by simp[cu,ByteArray.size]
 refine⟨_,_,hr,⟨⟨some ⟨w.heap.size,0,none⟩,(cu b).size,grownCap w (cu b).size 0 dF⟩,rfl,hK _ _ ⟨by simp[dy,hsz],?_⟩ (Mod.push _ _ _) ?_ (grownCap_ge _ _ _ _)⟩,(.of_le rfl (Nat.le_succ _))⟩
 ·intro i v hv
  rw[dN] at hv
  refine⟨_,rfl,?_⟩
  rw[aX]
  have hi:i<b.length:=by have:=(KI.1 hv).1;simpa[fk] using this
  have hb:(bytesRow (cu b) (grownCap w (cu b).size 0 dF))[i]?=some v:=by
   unfold bytesRow
   rw[Array.getElem?_append_left (by simp[cu];exact hi)]
   rw[<-hv]
   simp[cu,fk]
  exact cW (t:=dF) (fz:=((bytesRow (cu b) (grownCap w (cu b).size 0 dF)).size,(bytesRow (cu b) (grownCap w (cu b).size 0 dF)).size+1)) (by show (w.heap.push _)[w.heap.size]?=_;simp) hb
 ·rintro q ⟨ad,e1,e2⟩;cases e1;have:w.heap.size=q:=e2;omega
theorem xq {b:List UInt8}{H:Heap}{K:Sl->Heap->Prop}(hK:∀s' H',bG H' s' b->Mod (λ_=>False) H H'->(∀q,al s' q->H.size<=q)->K s' H'):
  bt av KE (convert iA dM (.string (cu b))) H K:=kf λs' H' h1 h2 h3 _=>hK s' H' h1 h2 h3
theorem bG.nil (H:Heap):bG H (Sl.mk none 0 0) []:=⟨rfl,Reads.nil _ _⟩
theorem sx {F:Nat->Prop}{d:Nat}{s:Dk}{H:Heap}{n:ByteArray}{page:Int}{K:(Sl×Int)->Heap->Prop}(h:cr F H d s)(hlogs:s.logs<68719476736)
  (hK:∀r H',bG H' r (s.read n page).1->Mod (λ_=>False) H H'->(∀b,al r b->H.size<=b)->r.n<=r.c->K (r,(s.read n page).2) H'):AD.sp (aD d) n page H K:=by
 obtain⟨fl,gs,cin,kp,g,_⟩:=h
 refine AD.of ?_
 unfold AD.vc
 simp only[aq]
 have err:∀(e:Int) (A:Heap),Mod (λ_=>False) H A->s.read n page=([],e)->K (Sl.mk none 0 0,e) A:=by
  intro e A hA he
  have:=hK (Sl.mk none 0 0) A (by rw[he];exact bG.nil _) hA (by rintro b ⟨ad,q,_⟩;cases q) (Nat.le_refl _)
  rw[he] at this;exact this
 refine nk g.head rfl g.files g.wf.files ?_
 refine g.head.ld (c:=aA) (i:=8) (x:=s.down) rfl ?_
 refine ae (λhd=>?_) (λhd=>?_)
 ·exact err 4 H (.refl _ _) (by unfold Dk.read Dk.open;rw[hd];rfl)
 rw[ng]
 cases hi:s.idx n with
 |none=>exact err 11 H (.refl _ _) (by unfold Dk.read Dk.open;rw[hd,hi];rfl)
 |some i=>
   refine aw rfl ?_
   obtain⟨f,hf,_⟩:=Dk.cY hi
   obtain⟨gg,hg,q1,q2⟩:=g.files.zN hf
   have hfile:s.file i=f:=Dk.dd hf
   have e0:s.read n page=if page<0 then ([],(12:Int)) else match f.au[page.toNat]? with|some p=>(p.1,(0:Int))|none=>([],(12:Int)):=by
    unfold Dk.read Dk.open;rw[hd,hi];simp[hfile];rfl
   have hx:mR s n=(i:Int):=by unfold mR;rw[hi]
   rw[hx]
   refine g.head.ld (c:=av) (i:=0) (x:=fl) rfl ?_
   refine g.files.I2 hf hg ?_
   have hpl:=Dk.eH hf;have hll:=Dk.jy hf
   have w1:=g.wf.used;have w2:=g.wf.most;have w3:=g.wf.quota
   refine kJ q1 q2 (by omega) (by omega) λl H2 o2 m2 f2=>?_
   have hln:=o2.n (by decide)
   refine ae (λhp=>?_) (λhp=>?_)
   ·refine err 12 H2 m2 ?_
    simp only[LL,decide_eq_true_eq] at hp
    rw[e0]
    rcases hp with hp|hp
    ·rw[if_pos hp]
    ·by_cases hp0:page<0
     ·rw[if_pos hp0]
     ·rw[if_neg hp0,List.getElem?_eq_none (by omega)]
   ·simp only[Mg,decide_eq_false_iff_not] at hp
    obtain⟨pg,rfl⟩:∃k:Nat,page=k:=⟨page.toNat,by omega⟩
    have hlt:pg<f.au.length:=by omega
    obtain⟨ad,ha⟩:=cS.addr o2.rd (by decide) (by omega)
    rw[ha]
    refine⟨⟨by omega,by omega⟩,?_⟩
    have hp2:f.au[pg]?=some f.au[pg]:=List.getElem?_eq_getElem hlt
    simp only[Int.toNat_natCast]
    refine aK.one (c:=aV) (y:=cu f.au[pg].1) o2 hp2 rfl rfl ha ?_
    refine kf λr H3 o3 m3 f3 c3=>?_
    have er:s.read n pg=(f.au[pg].1,0):=by
     rw[e0,if_neg (by omega)];simp[hp2]
    rw[er] at hK
    exact hK r H3 o3 (m2.trans m3) (λb hb=>by have:=f3 b hb;have:=m2.size;omega) c3
theorem Cq {F:Nat->Prop}{d:Nat}{s:Dk}{H:Heap}{n:ByteArray}{page:Int}{K:(Sl×Int)->Heap->Prop}(h:cr F H d s)(hlogs:s.logs<68719476736)
  (hK:∀r H',bG H' r (s.read n page).1->Mod (λ_=>False) H H'->(∀b,al r b->H.size<=b)->K (r,(s.read n page).2) H'):AD.sp (aD d) n page H K:=
 sx h hlogs λr H' h1 h2 h3 _=>hK r H' h1 h2 h3
theorem BW {F:Nat->Prop}{d:Nat}{s:Dk}{H:Heap}{n:ByteArray}{K:Int->Heap->Prop}(h:cr F H d s)(hlogs:s.logs<68719476736)
  (hK:∀F' H',cr F' H' d (s.sync n).1->Step F F' H H'->K (s.sync n).2 H'):He.sp (aD d) n H K:=by
 have h0:=h
 obtain⟨fl,gs,cin,kp,g,hF⟩:=h
 refine He.of ?_
 unfold He.vc
 simp only[aq]
 have stay:∀e:Int,s.sync n=(s,e)->K e H:=by
  intro e he
  have:=hK F H (by rw[he];exact h0) (.refl _ _)
  rw[he] at this;exact this
 refine nk g.head rfl g.files g.wf.files ?_
 refine g.head.ld (c:=aA) (i:=8) (x:=s.down) rfl ?_
 refine ae (λhd=>stay 4 (by unfold Dk.sync;rw[hd];rfl)) (λhd=>?_)
 rw[ng]
 cases hi:s.idx n with
 |none=>exact stay 11 (by unfold Dk.sync;rw[hd,hi];rfl)
 |some i=>
   refine aw rfl ?_
   have hr:s.sync n=s.step λt=>t.yI i λf=>{f with synced:=f.au,log:=[]}:=by unfold Dk.sync;rw[hd,hi];rfl
   rw[hr] at hK
   unfold Dk.step at hK
   refine mJ g λcin' H3 g3 m3 s3=>?_
   have hfs:=s.bc
   obtain⟨k1,k2,k3,k4⟩:=s.kj
   obtain⟨f,hf,_⟩:=Dk.cY hi
   have hf3:s.change.1.files[i]?=some f:=by rw[hfs];exact hf
   refine ae (λhz=>?_) (λhz=>?_)
   ·have hz':s.change.2=0:=by simpa using hz
    rw[if_pos hz'] at hK
    rw[hz']
    generalize s.change.1=t at*
    obtain⟨gg,hg,q1,q2⟩:=g3.files.zN hf3
    have hx:mR s n=(i:Int):=by unfold mR;rw[hi]
    rw[hx]
    refine⟨λA=>aj A d uR (dt fl t.most t.quota t.ops t.next t.crash.isSome cin' kp t.down),g3.head,?_⟩
    refine⟨fl,λA hA=>by rw[aX];exact hA.cell rfl,?_⟩
    refine g3.head.ld (c:=av) (i:=0) (x:=fl) rfl ?_
    refine g3.files.I2 hf3 hg ?_
    have hpl:=Dk.eH hf;have hll:=Dk.jy hf
    have w1:=g.wf.used;have w2:=g.wf.most;have w3:=g.wf.quota
    refine kJ q1 q2 (by omega) (by omega) λl H4 o4 m4 f4=>⟨g3.head.ext m4,?_⟩
    have a4:aK rU uA H4 fl (tK t.files gs):=g3.files.arr.ext m4
    have hrow:=lA _ _ i f gg hf3 hg
    refine yx a4 hrow (j:=1) (v:=l.v) (by omega) rfl (y:=(f.name,l,gg.2)) rfl λH5 a5 m5 s5=>?_
    have off3:=iW.off g3.head g3.files
    have d5:=(g3.head.ext m4).mod m5 (λhb=>off3 (.inl hb))
    refine d5.ld (c:=av) (i:=0) (x:=fl) rfl ?_
    have hil:=(KI.1 hrow).1
    refine yx a5 (i:=i) (j:=2) (x:=(f.name,l,gg.2)) (v:=.slice none 0 0) (by simp[hil]) (by omega) rfl (y:=(f.name,l,Sl.mk none 0 0)) rfl λH6 a6 m6 s6=>?_
    rw[List.set_set] at a6
    have z4:=m4.size
    have m36:Mod (al fl) H3 H6:=(((Ext.mod m4).trans m5).trans m6)
    have d6:=d5.mod m6 (λhb=>off3 (.inl hb))
    have lty:∀b,al l b->¬al fl b:=o4.apart a4 (by decide)
    have fB:=g3.files.set (H':=H6) hf3 hg (f':={f with synced:=f.au,log:=[]}) (g':=(l,Sl.mk none 0 0)) a6 (o4.ak λb hb hl=>(m6.same b (by omega) (lty b hb)).trans (m5.same b hl (lty b hb))) (aK.nil _ _ _)
     (λj gj _ hgj b hb hl=>m36.same b hl (g3.files.fV hgj b hb)) (by rintro b ⟨ad,q,_⟩;cases q)
    have hu:=Dk.iN (s:=t) (g:=λf=>{f with synced:=f.au,log:=[]}) hf3
    have hu':(t.yI i λf=>{f with synced:=f.au,log:=[]}).used=t.used:=by
     have e:({f with synced:=f.au,log:=[]}:Fl).au.length=f.au.length:=rfl
     omega
    have gG:iW fl (gs.set i (l,Sl.mk none 0 0)) cin' kp H6 d (t.yI i λf=>{f with synced:=f.au,log:=[]}):=by
     refine⟨d6,g3.crash,?_,g3.wf.modify (g:=λf=>{f with synced:=f.au,log:=[]}) hf3 rfl rfl (by rw[hu'];exact g3.wf.used) g3.wf.most rfl rfl rfl⟩
     show aO H6 fl _ (t.files.modify i λf=>{f with synced:=f.au,log:=[]})
     rw[aS hf3];exact fB
    obtain⟨F',r1,r2⟩:=gG.out (fl:=fl) (gs:=gs) (F:=F) (H:=H) hF ((m3.mono λb _ e=>(hF b).2 (.inl e)).trans (m36.mono λb _ e=>(hF b).2 (.inr (.inl e)))) (λb hb=>(zg (H:=H3) hg (λb hb=>.inr (f4 b hb)) (by rintro b ⟨ad,q,_⟩;cases q) b hb).imp id (λq=>by omega))
    exact hK F' H6 r1 r2
   ·have hz':s.change.2≠0:=by simpa using hz
    rw[if_neg hz'] at hK
    obtain⟨F',q1,q2⟩:=g3.out (fl:=fl) (gs:=gs) (F:=F) (H:=H) hF (m3.mono λb _ e=>(hF b).2 (.inl e)) (λb q=>.inl q)
    exact hK F' H3 q1 q2
set_option maxHeartbeats 1000000 in
theorem sN {F:Nat->Prop}{d:Nat}{s:Dk}{H:Heap}{n:ByteArray}{page:Int}{p3:Sl}{b:List UInt8}{K:Int->Heap->Prop}(h:cr F H d s)(hb:bG H p3 b)(hpb:∀ad,p3.a=some ad->¬F ad.block)(hlogs:s.logs+1<68719476736)
  (hK:∀F' H',cr F' H' d (s.write n page b).1->Step F F' H H'->K (s.write n page b).2 H'):Ee.sp (aD d) n page p3 H K:=by
 have h0:=h
 have h0lt:=h.lt
 obtain⟨fl,gs,cin,kp,g,hF⟩:=h
 refine Ee.of ?_
 unfold Ee.vc
 simp only[aq]
 have stay:∀(e:Int) (A:Heap),Mod (λ_=>False) H A->s.write n page b=(s,e)->K e A:=by
  intro e A hA he
  have:=hK F A (by rw[he];exact h0.ak λb hb hl=>hA.same b hl id) ⟨Ext.mod hA,λb hb=>.inl hb⟩
  rw[he] at this;exact this
 have hbn:=hb.n
 refine nk g.head rfl g.files g.wf.files ?_
 refine g.head.ld (c:=aA) (i:=8) (x:=s.down) rfl ?_
 refine ae (λhd=>stay 4 H (.refl _ _) (by unfold Dk.write;rw[hd];rfl)) (λhd=>?_)
 refine ae (λhne=>stay 2 H (.refl _ _) ?_) (λhne=>?_)
 ·have:b.length≠512:=by simp at hne;omega
  unfold Dk.write;rw[hd];simp[this]
 have hb512:b.length=512:=by simp at hne;omega
 rw[ng]
 cases hi:s.idx n with
 |none=>
   refine aP rfl (stay 11 H (.refl _ _) ?_)
   unfold Dk.write;rw[hd];simp[hb512,hi]
 |some i=>
   refine aw rfl ?_
   obtain⟨f,hf,hfn⟩:=Dk.cY hi
   obtain⟨gg,hg,q1,q2⟩:=g.files.zN hf
   have hfile:s.file i=f:=Dk.dd hf
   have hx:mR s n=(i:Int):=by unfold mR;rw[hi]
   simp only[hx]
   have hpl:=Dk.eH hf;have hll:=Dk.jy hf
   have w1:=g.wf.used;have w2:=g.wf.most;have w3:=g.wf.quota
   have e12:page<0\/page>f.au.length->s.write n page b=(s,12):=by
    intro hp
    unfold Dk.write;rw[hd];simp only[MI,if_false,hb512,dif_pos,hi,hfile]
    rw[if_pos hp]
   have e5:¬(page<0\/page>f.au.length)->page=f.au.length->s.used>=s.quota->s.write n page b=(s,5):=by
    intro hp h1 h2
    unfold Dk.write;rw[hd];simp only[MI,if_false,hb512,dif_pos,hi,hfile]
    rw[if_neg hp,if_pos ⟨h1,h2⟩]
   refine g.head.ld (c:=av) (i:=0) (x:=fl) rfl ?_
   refine g.files.I2 hf hg ?_
   refine kJ q1 q2 (by omega) (by omega) λl H2 o2 m2 f2=>?_
   have hln:=o2.n (by decide)
   refine⟨λ_ A=>Mod (λ_=>False) H A/\¬(page<0\/page>f.au.length)/\¬(page=f.au.length/\s.used>=s.quota),?_,?_⟩
   ·refine ae (λhp=>stay 12 H2 m2 (e12 ?_)) (λhp=>?_)
    ·simp only[LL,decide_eq_true_eq] at hp;omega
    have hp1:¬(page<0\/page>f.au.length):=by simp only[Mg,decide_eq_false_iff_not] at hp;omega
    refine⟨λA=>aj A d uR (dt fl s.most s.quota s.ops s.next s.crash.isSome cin kp s.down),g.head.ext m2,?_⟩
    refine ae (λhe=>?_) (λhe=>⟨m2,hp1,λhh=>by simp at he;omega⟩)
    have he':page=f.au.length:=by simp at he;omega
    have f22:aO H2 fl gs s.files:=g.files.ak λb hb hl=>m2.same b hl id
    refine sV (g.head.ext m2) rfl f22 (by omega) g.wf.files (by omega) λH4 m4=>⟨(g.head.ext m2).ext m4,?_⟩
    refine⟨(s.quota:Int),λA hA=>by rw[aX];exact hA.cell rfl,?_⟩
    refine ae (λhq=>stay 5 H4 (m2.trans m4) (e5 hp1 he' (by simp at hq;omega))) (λhq=>⟨m2.trans m4,hp1,λhh=>by simp at hq;omega⟩)
   ·rintro _ H0 ⟨m0,hp1,hp2⟩
    obtain⟨pg,rfl⟩:∃k:Nat,page=k:=⟨page.toNat,by omega⟩
    have hpg:pg<=f.au.length:=by omega
    obtain⟨wr,hwr⟩:∃wr:Dk->Wr,wr=λt=>⟨t.next,pg,⟨b,hb512⟩⟩:=⟨_,rfl⟩
    have hr:s.write n pg b=s.step λt=>(t.ff i (wr t)).gk (max t.most (t.ff i (wr t)).used):=by
     unfold Dk.write;rw[hd];simp only[MI,if_false,hb512,dif_pos,hi,hfile]
     rw[if_neg hp1,if_neg hp2,hwr]
     rfl
    rw[hr] at hK
    unfold Dk.step at hK
    have g0:iW fl gs cin kp H0 d s:=⟨g.head.ext m0,g.crash,g.files.ak λb hb hl=>m0.same b hl id,g.wf⟩
    refine mJ g0 λcin' H4 g4 m4 s4=>?_
    have mH4:Mod F H H4:=(Ext.mod m0).trans (m4.mono λb _ e=>(hF b).2 (.inl e))
    have z0:=m0.size
    refine ae (λhz=>?_) (λhz=>?_)
    ·have hz':s.change.2≠0:=by simpa using hz
     rw[if_neg hz'] at hK
     obtain⟨F',r1,r2⟩:=g4.out (fl:=fl) (gs:=gs) (F:=F) (H:=H) hF mH4 (λb q=>.inl q)
     exact hK F' H4 r1 r2
    have hz':s.change.2=0:=by simpa using hz
    rw[if_pos hz'] at hK
    dsimp only at hK
    obtain⟨k1,k2,k3,k4⟩:=s.kj
    have hfs:=s.bc
    generalize ht:s.change.1=t at*
    have hf4:t.files[i]?=some f:=by rw[hfs];exact hf
    obtain⟨q14,q24⟩:=g4.files.ent i f gg hf4 hg
    have off4:=iW.off g4.head g4.files
    have hb4:bG H4 p3 b:=hb.ak λad ha hl=>mH4.same _ hl (hpb ad ha)
    have hgm:=KH hg
    have hrow:=lA _ _ i f gg hf4 hg
    have hpA:∀ad,p3.a=some ad->¬al gg.2 ad.block:=λad ha hh=>hpb ad ha ((hF _).2 (.inr (.inr ⟨gg,hgm,.inr hh⟩)))
    have arrLog:∀b,al gg.2 b->¬al fl b:=λb hb=>g4.files.fV hg b (.inr hb)
    have dLog:¬al gg.2 d:=λhh=>off4 (.inr ⟨gg,hgm,.inr hh⟩)
    refine⟨λA=>aj A d uR (dt fl t.most t.quota t.ops t.next t.crash.isSome cin' kp t.down)/\aK rU uA A fl (tK t.files gs)/\bG A p3 b,⟨g4.head,g4.files.arr,hb4⟩,?_⟩
    refine⟨fl,λA hA=>by rw[aX];exact hA.1.cell rfl,?_⟩
    refine⟨fl,λA hA=>by rw[aX];exact hA.1.cell rfl,?_⟩
    obtain⟨ad,ha⟩:=cS.addr g4.files.arr.rd (by decide) (by have:=(KI.1 hrow).1;omega)
    have hn4:=g4.files.n
    have hil:=(KI.1 hf4).1
    rw[ha]
    refine⟨⟨by omega,by omega⟩,?_⟩
    refine⟨gg.2,λA hA=>?_,?_⟩
    ·obtain⟨ad',e1,hc⟩:=cS.cell hA.2.1.rd hrow (j:=2) (v:=gg.2.v) rfl
     rw[ha] at e1;cases e1
     rw[add_add]
     exact hc
    refine g4.head.ld (c:=aa .i64) (i:=4) (x:=t.next) rfl ?_
    refine⟨cu b,λA hA=>hA.2.2.G5,?_⟩
    have hwt:wr t=⟨t.next,pg,⟨b,hb512⟩⟩:=by rw[hwr]
    refine aK.DU (E:=vq) Jm (x:=wr t) q24 (by rw[hwt];rfl) (by omega) (by omega) _ (λH6 s6 m6=>⟨g4.head.ext m6,g4.files.arr.ext m6,hb4.ak λad ha hl=>m6.same _ hl id⟩) λs7 H7 o7 g7 _=>?_
    refine⟨⟨g4.head.mod g7.1 dLog,g4.files.arr.ak λb hb hl=>g7.1.same b hl λhh=>arrLog b hh hb,hb4.ak λad ha hl=>g7.1.same _ hl (hpA ad ha)⟩,?_⟩
    rw[<-ha]
    have a7:aK rU uA H7 fl (tK t.files gs):=g4.files.arr.ak λb hb hl=>g7.1.same b hl λhh=>arrLog b hh hb
    refine yx a7 hrow (j:=2) (v:=s7.v) (by omega) rfl (y:=(f.name,gg.1,s7)) rfl λH8 a8 m8 s8=>?_
    have d7:=g4.head.mod g7.1 dLog
    have d8:aj H8 d uR (dt fl t.most t.quota t.ops t.next t.crash.isSome cin' kp t.down):=d7.mod m8 (λhb=>off4 (.inl hb))
    refine d8.ld (c:=aa .i64) (i:=4) (x:=t.next) rfl ?_
    refine d8.st (i:=4) (by simp[dt]) (by rfl) λH9 d9 m9 s9=>?_
    have d9':aj H9 d uR (dt fl t.most t.quota t.ops (da (t.next+1)) t.crash.isSome cin' kp t.down):=d9
    have z7:=g7.1.size
    have s7fl:∀b,al s7 b->¬al fl b:=o7.apart a7 (by decide)
    have s7d:∀b,al s7 b->b≠d:=λb hb e=>by
     obtain⟨c,q⟩:=o7.obj b hb
     rw[e] at q
     exact absurd (aQ d7 q) (by decide)
    have fB:=g4.files.set (H':=H9) hf4 hg (f':={f with log:=f.log++[wr t]}) (g':=(gg.1,s7)) (a8.ak λb hb hl=>m9.same b hl λe=>off4 (.inl (e▸hb)))
     (q14.ak λb hb hl=>(m9.same b (by omega) λe=>off4 (.inr ⟨gg,hgm,.inl (e▸hb)⟩)).trans ((m8.same b (by omega) (g4.files.fV hg b (.inl hb))).trans (g7.1.same b hl ((q14.apart q24 (by decide)) b hb))))
     (o7.ak λb hb hl=>(m9.same b (by omega) (s7d b hb)).trans (m8.same b hl (s7fl b hb)))
     (λj gj hj hgj b hb hl=>(m9.same b (by omega) λe=>off4 (.inr ⟨gj,KH hgj,e▸hb⟩)).trans ((m8.same b (by omega) (g4.files.fV hgj b hb)).trans (g7.1.same b hl λhh=>by
      rcases hb with hb|hb
      ·obtain⟨_,_,t1,_⟩:=g4.files.vo hgj
       exact(t1.apart q24 (by decide)) b hb hh
      ·exact g4.files.apart j i gj gg hgj hg hj b hb hh)))
     (λb hb=>g7.2 b hb)
    have hused:(t.ff i (wr t)).used=if pg=f.au.length then t.used+1 else t.used:=by
     have h1:=Dk.iN (s:=t) (g:=λf=>{f with log:=f.log++[wr t]}) hf4
     have h2:({f with log:=f.log++[wr t]}:Fl).au.length=max f.au.length (pg+1):=by
      have e:({f with log:=f.log++[wr t]}:Fl).au=dq f.au (wr t):=by simp[Fl.au]
      rw[e,ct,hwt]
     have h3:(t.ff i (wr t)).used=(t.yI i (λf=>{f with log:=f.log++[wr t]})).used:=rfl
     rw[h3]
     split<;>omega
    have fB':aO H9 fl (gs.set i (gg.1,s7)) (t.ff i (wr t)).files:=by
     show aO H9 fl _ (t.files.modify i λf=>{f with log:=f.log++[wr t]})
     rw[aS hf4];exact fB
    have hlg:(t.ff i (wr t)).logs<68719476736:=by
     have h1:=eM (λf:Fl=>f.log.length) (λf=>{f with log:=f.log++[wr t]}) t.files i f hf4
     have h2:(t.ff i (wr t)).logs=((t.files.modify i λf=>{f with log:=f.log++[wr t]}).map λf=>f.log.length).sum:=rfl
     have h3:(t.files.map λf=>f.log.length).sum=s.logs:=by rw[hfs];rfl
     simp only[List.length_append,List.length_cons,List.length_nil] at h1
     rw[h2]
     omega
    refine⟨λA=>aj A d uR (dt fl t.most t.quota t.ops (da (t.next+1)) t.crash.isSome cin' kp t.down),d9',?_⟩
    refine⟨(t.most:Int),λA hA=>by rw[aX];exact hA.cell rfl,?_⟩
    have hlf:(t.ff i (wr t)).files.length<=4096:=by
     show (t.files.modify i _).length<=4096
     simp;exact g4.wf.files
    refine sV (s:=t.ff i (wr t)) d9' rfl fB' (by rw[hused];split<;>omega) hlf hlg λH10 m10=>⟨d9'.ext m10,?_⟩
    refine(d9'.ext m10).st (i:=1) (by simp[dt]) (by rfl) λH11 d11 m11 s11=>?_
    have em:(if (((t.ff i (wr t)).used:Nat):Int)>(t.most:Int) then (((t.ff i (wr t)).used:Nat):Int) else (t.most:Int))=((max t.most (t.ff i (wr t)).used:Nat):Int):=by split<;>omega
    rw[em] at d11
    have z10:=m10.size
    have offB:=iW.off d9' fB'
    have gG:iW fl (gs.set i (gg.1,s7)) cin' kp H11 d ((t.ff i (wr t)).gk (max t.most (t.ff i (wr t)).used)):=by
     refine⟨d11,g4.crash,?_,?_⟩
     ·exact fB'.ak λb hb hl=>(m11.same b (by omega) λe=>offB (e▸hb)).trans (m10.same b hl id)
     ·refine g4.wf.modify (g:=λf=>{f with log:=f.log++[wr t]}) hf4 rfl rfl (Nat.le_max_right _ _) ?_ rfl rfl rfl
      show max t.most (t.ff i (wr t)).used<=t.quota
      rw[hused]
      split<;>omega
    have hmm:Mod F H H11:=by
     have t1:Mod F H4 H9:=((g7.1.mono λb _ e=>(hF b).2 (.inr (.inr ⟨gg,hgm,.inr e⟩))).trans (m8.mono λb _ e=>(hF b).2 (.inr (.inl e)))).trans (m9.mono λb _ e=>(hF b).2 (.inl e))
     exact((mH4.trans t1).trans (Ext.mod m10)).trans (m11.mono λb _ e=>(hF b).2 (.inl e))
    obtain⟨F',r1,r2⟩:=gG.out (fl:=fl) (gs:=gs) (F:=F) (H:=H) hF hmm (λb hb=>(zg (H:=H4) (g':=(gg.1,s7)) hg (λb hb=>.inl hb) (λb hb=>g7.2 b hb) b hb).imp id (λq=>by omega))
    exact hK F' H11 r1 r2
end Go.Proofs.YtdpdmbceakdlmaaGreatDoor
