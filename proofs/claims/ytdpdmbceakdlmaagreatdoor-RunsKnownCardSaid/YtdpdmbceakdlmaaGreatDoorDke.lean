/-
 The disk: copies of pages, Sync, a page put, Write.
-/
import Derived.Test.YtdpdmbceakdlmaaGreatDoorDkd
open Go.Proofs.Tryz renaming prog->KE
open Nat renaming le_trans->Lc
namespace Go.Proofs.YtdpdmbceakdlmaaGreatDoor
open Go.MapKept
theorem uK:uy KE Ep tv rE.size 512:=ic (by kernel_rfl)
theorem Ij:uy KE IB qa uN.size 528:=ic (by kernel_rfl)
theorem iZ {s:Sl}{l:List Pg}{H:Heap}{K:Sl->Heap->Prop}(h:aK rE tv H s l)(hl:l.length<=2097152)
  (hK:∀s' H',aK rE tv H' s' l->Mod (λ_=>False) H H'->(∀b,al s' b->H.size<=b)->K s' H'):BA.sp s H K:=by
 refine BA.of ?_
 unfold BA.vc
 refine ae (λhn=>?_) (λhn=>?_)
 ·have:=aK.Jq h (by decide) (by simpa using hn)
  subst this
  exact hK _ H (aK.nil _ _ _) (.refl _ _) (by rintro b ⟨ad,q,_⟩;cases q)
 ·refine HF (E:=rE) uK λs1 H1 o1 m1 f1 _=>?_
  refine aK.append uK o1 (x:=s) (r:=l) (cS.ak h.rd λad ha hl=>m1.same _ hl id) (h.n (by decide)) (by simp;omega) (by simp;omega) λs' H' o' g' _=>?_
  refine hK s' H' o' ⟨Lc m1.size g'.1.size,λb hb _=>(g'.1.same b (by have:=m1.size;omega) λhh=>?_).trans (m1.same b hb id)⟩ (λb hb=>?_)
  ·have:=f1 b hh;omega
  ·rcases g'.2 b hb with q|q
   ·exact f1 b q
   ·exact Lc m1.size q
theorem dJ.EZ {x:DG}{cin' kp':Int}{H H':Heap}{d:Nat}{s t:Dk}(h:bm H x s.files){i:Nat}{f:Fl}{g g':FG}{u:Fl->Fl}(hf:s.files[i]?=some f)(hg:x.gs[i]?=some g)(hp:g'.p=g.p)(hn:(u f).name=f.name)(hq:cA H' g' (u f))
  (hm:Mod g.fp H H') (hb:∀b,g'.fp b->g.fp b\/H.size<=b) (ht:t.files=s.files.modify i u) (hr:aj H' d wE (eW x.m t.used t.most t.quota t.ops t.next t.crash.isSome cin' kp' t.down)) (hc:jz t cin' kp') (hwf:t.WF):
  dJ {x with gs:=x.gs.set i g'} cin' kp' H' d t/\(∀b,DG.fp {x with gs:=x.gs.set i g'} b->x.fp b\/H.size<=b):=by
 obtain⟨h1,h2⟩:=h.set hf hg hp hn hq hm hb
 rw[<-aS hf,<-ht] at h1
 exact⟨⟨hr,hc,h1,hwf⟩,h2⟩
theorem Fj {F:Nat->Prop}{d:Nat}{s:Dk}{H:Heap}{n:ByteArray}{K:Int->Heap->Prop}(h:bj F H d s)
  (hK:∀F' H',bj F' H' d (s.sync n).1->Step F F' H H'->K (s.sync n).2 H'):Gx.sp (aD d) n H K:=by
 have h0:=h
 obtain⟨x,cin,kp,g,hF⟩:=h
 refine Gx.of ?_
 unfold Gx.vc
 have stay:∀e:Int,s.sync n=(s,e)->K e H:=by
  intro e he
  have:=hK F H (by rw[he];exact h0) (.refl _ _)
  rw[he] at this;exact this
 refine pX g (λhd=>?_) (λhd hN=>?_) (λi f gf hd hi hf hn hg hFl=>?_)
 ·exact stay 4 (by unfold Dk.sync;rw[hd];rfl)
 ·exact stay 11 (by unfold Dk.sync;rw[hd,hN];rfl)
 ·refine aw rfl ?_
  have hr:s.sync n=s.step λt=>t.yI i λf=>{f with synced:=f.au,log:=[]}:=by unfold Dk.sync;rw[hd,hi];rfl
  rw[hr] at hK
  unfold Dk.step at hK
  refine oF g λcin' H3 g3 m3 s3=>?_
  have hfs:=s.bc
  have hf3:s.change.1.files[i]?=some f:=by rw[hfs];exact hf
  refine ae (λhz=>?_) (λhz=>?_)
  ·have hz':s.change.2=0:=by simpa using hz
   rw[if_pos hz'] at hK
   rw[hz']
   simp only[aq]
   have hFl3:=(g3.files.ent i f gf hf3 hg).2
   refine hFl3.row.ld (c:=av) (i:=0) (x:=gf.now) rfl ?_
   have hpl:=Dk.eH hf3
   have hw3:=g3.wf
   have hw1:=hw3.used;have hw2:=hw3.most;have hw4:=hw3.quota
   refine iZ hFl3.now (by omega) λs1 H4 o4 m4 f4=>?_
   have hr4:=hFl3.row.ext m4
   refine hr4.st (i:=1) (by simp) (by rfl) λH5 r5 m5 s5=>?_
   refine r5.st (i:=2) (by simp) (by rfl) λH6 r6 m6 s6=>?_
   have hp4:gf.p<H3.size:=aG hFl3.row
   have hnow:∀b,al gf.now b->b≠gf.p:=λb hb e=>by
    obtain⟨c,q⟩:=hFl3.now.obj b hb
    rw[e] at q
    exact absurd (aQ hFl3.row q) (by decide)
   have q:cA H6 {gf with syn:=s1,log:=Sl.mk none 0 0} ⟨f.name,f.au,[]⟩:=by
    refine⟨r6,?_,?_,aK.nil _ _ _,?_⟩
    ·exact aT.ak (hFl3.now) λb hb hl=>(m6.same b (by have:=m4.size;omega) (hnow b hb)).trans ((m5.same b (by have:=m4.size;omega) (hnow b hb)).trans (m4.same b hl id))
    ·refine aT.ak o4 λb hb hl=>?_
     have:=f4 b hb
     exact(m6.same b (by omega) (by omega)).trans (m5.same b hl (by omega))
    ·intro b hb hb2
     have:=f4 b hb2
     have:=hFl3.now.lt b hb
     omega
   have hm:Mod gf.fp H3 H6:=by
    refine⟨by have:=m4.size;omega,λb hb hn=>?_⟩
    have hne:b≠gf.p:=λe=>hn (.inl e)
    have:=m4.size
    exact(m6.same b (by omega) hne).trans ((m5.same b (by omega) hne).trans (m4.same b hb id))
   have hdx:=dJ.mC g3.head g3.files
   have hgm:=List.mem_of_getElem? hg
   have hu:=Dk.iN (s:=s.change.1) (g:=λf=>{f with synced:=f.au,log:=[]}) hf3
   have hu':(s.change.1.yI i λf=>{f with synced:=f.au,log:=[]}).used=s.change.1.used:=by
    have e:({f with synced:=f.au,log:=[]}:Fl).au.length=f.au.length:=rfl
    omega
   obtain⟨g6,ho⟩:=dJ.EZ (d:=d) (t:=s.change.1.yI i λf=>{f with synced:=f.au,log:=[]}) (u:=λf=>{f with synced:=f.au,log:=[]}) (g':={gf with syn:=s1,log:=Sl.mk none 0 0}) g3.files hf3 hg rfl rfl q hm (by
     rintro b (e|hb|hb|⟨ad,hb,_⟩)
     ·exact .inl (.inl e)
     ·exact .inl (.inr (.inl hb))
     ·exact .inr (f4 b hb)
     ·cases hb) rfl (by rw[hu'];exact g3.head.mod hm λhb=>hdx (.inr ⟨gf,hgm,hb⟩)) g3.crash (g3.wf.modify (g:=λf=>{f with synced:=f.au,log:=[]}) hf3 rfl rfl (by rw[hu'];exact hw1) hw2 rfl rfl rfl)
   obtain⟨F',q1,q2⟩:=g6.out (x:=x) (F:=F) (H:=H) hF ((m3.mono λb _ e=>(hF b).2 (.inl e)).trans (hm.mono λb _ e=>(hF b).2 (.inr (.inr ⟨gf,hgm,e⟩)))) (λb hb=>(ho b hb).imp id (λq=>by omega))
   exact hK F' H6 q1 q2
  ·have hz':s.change.2≠0:=by simpa using hz
   rw[if_neg hz'] at hK
   obtain⟨F',q1,q2⟩:=g3.out (x:=x) (F:=F) (H:=H) hF (m3.mono λb _ e=>(hF b).2 (.inl e)) (λb q=>.inl q)
   exact hK F' H3 q1 q2
theorem Ck:(zc KE tv).toList=rE.enc D0:=by kernel_rfl
theorem Cn {l:Sl}{ps:List Pg}{page:Nat}{no:Int}{b:Pg}{H:Heap}{K:Sl->Heap->Prop}(h:aK rE tv H l ps)(hlen:ps.length<=2097152)(hpage:page<2097152)
  (hK:∀l' H',aK rE tv H' l' (dq ps ⟨no,page,b⟩)->Grown l l' H H'->K l' H'):DX.sp l page (fk b.1).toArray H K:=by
 refine DX.of ?_
 unfold DX.vc
 refine ao λH1 s1 r1 m1=>?_
 have own0:=h.lt
 refine⟨Nat,λk l1 H2=>aK rE tv H2 l1 (ps++List.replicate k D0)/\k<=page+1 - ps.length/\Mod (al l) H1 H2/\(∀b,al l1 b->al l b\/H1.size<=b),λk=>page+1 - ps.length - k,⟨0,by simpa using aT.ext h m1,Nat.zero_le _,.refl _ _,λb hb=>.inl hb⟩,?_⟩
 rintro k l1 H2 ⟨o2,hk,m2,f2⟩
 have hn:l1.n=ps.length+k:=by rw[aK.n o2 (by decide)];simp
 refine ae (λhc=>?_) (λhc=>?_)
 ·have hc':l1.n<=page:=by simpa using hc
  refine aK.zy (E:=rE) uK (x:=D0) (cs:=zc KE tv) o2 Ck (by decide) (by simp;omega) (by simp;omega) λs' H' o' g' _=>?_
  refine⟨k+1,⟨?_,by omega,?_,?_⟩,by show _ - _<_ - _;omega⟩
  ·rw[List.append_assoc,<-List.replicate_succ'] at o';exact o'
  ·grind [Mod]
  ·grind [Mod]
 ·have hc':page<l1.n:=by simpa using hc
  have hp:aj H2 H.size tv (fk b.1).toArray:=r1.mod m2 (λhb=>by have:=own0 _ hb;omega)
  refine hp.dI (c:=jn) (x:=(fk b.1).toArray) rfl (by simp[fk,b.2]) ?_
  obtain⟨ad,ha⟩:=cS.addr o2.rd (by decide) (by simp;omega)
  rw[ha]
  refine⟨⟨by omega,by omega⟩,?_⟩
  refine aK.Js (E:=rE) o2 ha (i:=page) (y:=b) (by simp;omega) (by simp[rE]) (by kernel_rfl) (by simp[rE]) λH3 o3 m3 s3=>?_
  have hkk:k=page+1 - ps.length:=by omega
  refine hK l1 H3 (by unfold dq;rw[<-hkk];exact o3) ⟨?_,?_⟩
  ·grind [Mod]
  ·grind [Mod]
end Go.Proofs.YtdpdmbceakdlmaaGreatDoor
