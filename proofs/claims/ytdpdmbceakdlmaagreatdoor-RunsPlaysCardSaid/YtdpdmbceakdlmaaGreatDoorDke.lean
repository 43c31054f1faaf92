/-
 The disk: copies of pages, Sync, a page put, Write.
-/
import Derived.Test.YtdpdmbceakdlmaaGreatDoorDkd
namespace Go.Proofs.YtdpdmbceakdlmaaGreatDoor
open Go.MapKept
theorem rO:sN Tryz.prog Ca qS pZ.size 512:=gW (by kernel_rfl)
theorem Fw:sN Tryz.prog FJ nU sL.size 528:=gW (by kernel_rfl)
theorem hY {s:Sl} {l:List Pg} {H:Heap} {K:Sl→Heap→Prop} (h:aG pZ qS H s l) (hl:l.length≤2097152)
  (hK:∀s' H',aG pZ qS H' s' l→Mod (fun _=>False) H H'→(∀b,aj s' b→H.size≤b)→K s' H'):yP.sp s H K:=by
 refine yP.of ?_
 unfold yP.vc
 refine ag (fun hn=>?_) (fun hn=>?_)
 ·have:=aG.GJ h (by decide) (by simpa using hn)
  subst this
  exact hK _ H (aG.nil _ _ _) (.refl _ _) (by rintro b ⟨ad,q,_⟩;cases q)
 ·refine E0 (E:=pZ) rO fun s1 H1 o1 m1 f1 _=>?_
  refine aG.append rO o1 (x:=s) (r:=l) (cL.keep h.rd fun ad ha hl=>m1.same _ hl id) (h.n (by decide)) (by simp;omega) (by simp;omega) fun s' H' o' g' _=>?_
  refine hK s' H' o' ⟨Nat.le_trans m1.size g'.1.size,fun b hb _=>(g'.1.same b (by have:=m1.size;omega) fun hh=>?_).trans (m1.same b hb id)⟩ (fun b hb=>?_)
  ·have:=f1 b hh;omega
  ·rcases g'.2 b hb with q|q
   ·exact f1 b q
   ·exact Nat.le_trans m1.size q
theorem dg.Cd {x:DG} {cin' kp':Int} {H H':Heap} {d:Nat} {s t:Dk} (h:bh H x s.files) {i:Nat} {f:Fl} {g g':FG} {u:Fl→Fl} (hf:s.files[i]?=some f) (hg:x.gs[i]?=some g) (hp:g'.p=g.p) (hn:(u f).name=f.name) (hq:ck H' g' (u f))
  (hm:Mod g.fp H H') (hb:∀b,g'.fp b→g.fp b∨H.size≤b) (ht:t.files=s.files.modify i u) (hr:ai H' d ue (dS x.m t.used t.most t.quota t.ops t.next t.crash.isSome cin' kp' t.down)) (hc:iP t cin' kp') (hwf:t.WF):
  dg {x with gs:=x.gs.set i g'} cin' kp' H' d t∧(∀b,DG.fp {x with gs:=x.gs.set i g'} b→x.fp b∨H.size≤b):=by
 obtain⟨h1,h2⟩:=h.set hf hg hp hn hq hm hb
 rw[←aM hf,←ht] at h1
 exact⟨⟨hr,hc,h1,hwf⟩,h2⟩
theorem C3 {F:Nat→Prop} {d:Nat} {s:Dk} {H:Heap} {n:ByteArray} {K:Int→Heap→Prop} (h:bf F H d s)
  (hK:∀F' H',bf F' H' d (s.sync n).1→Step F F' H H'→K (s.sync n).2 H'):EO.sp (ay d) n H K:=by
 have h0:=h
 obtain⟨x,cin,kp,g,hF⟩:=h
 refine EO.of ?_
 unfold EO.vc
 have stay:∀e:Int,s.sync n=(s,e)→K e H:=by
  intro e he
  have:=hK F H (by rw[he];exact h0) (.refl _ _)
  rw[he] at this;exact this
 refine oo g (fun hd=>?_) (fun hd hN=>?_) (fun i f gf hd hi hf hn hg hFl=>?_)
 ·exact stay 4 (by unfold Dk.sync;rw[hd];rfl)
 ·exact stay 11 (by unfold Dk.sync;rw[hd,hN];rfl)
 ·refine ar rfl ?_
  have hr:s.sync n=s.step fun t=>t.wu i fun f=>{f with synced:=f.ao,log:=[]}:=by unfold Dk.sync;rw[hd,hi];rfl
  rw[hr] at hK
  unfold Dk.step at hK
  refine nd g fun cin' H3 g3 m3 s3=>?_
  have hfs:=s.aX
  have hf3:s.change.1.files[i]?=some f:=by rw[hfs];exact hf
  refine ag (fun hz=>?_) (fun hz=>?_)
  ·have hz':s.change.2=0:=by simpa using hz
   rw[if_pos hz'] at hK
   rw[hz']
   simp only[ak]
   have hFl3:=(g3.files.ent i f gf hf3 hg).2
   refine hFl3.row.ld (c:=aq) (i:=0) (x:=gf.now) rfl ?_
   have hpl:=Dk.dH hf3
   have hw3:=g3.wf
   have hw1:=hw3.used;have hw2:=hw3.most;have hw4:=hw3.quota
   refine hY hFl3.now (by omega) fun s1 H4 o4 m4 f4=>?_
   have hr4:=hFl3.row.ext m4
   refine hr4.st (i:=1) (by simp) (by rfl) fun H5 r5 m5 s5=>?_
   refine r5.st (i:=2) (by simp) (by rfl) fun H6 r6 m6 s6=>?_
   have hp4:gf.p<H3.size:=az hFl3.row
   have hnow:∀b,aj gf.now b→b≠gf.p:=fun b hb e=>by
    obtain⟨c,q⟩:=hFl3.now.obj b hb
    rw[e] at q
    exact absurd (aL hFl3.row q) (by decide)
   have q:ck H6 {gf with syn:=s1,log:=Sl.mk none 0 0} ⟨f.name,f.ao,[]⟩:=by
    refine⟨r6,?_,?_,aG.nil _ _ _,?_⟩
    ·exact aN.keep (hFl3.now) fun b hb hl=>(m6.same b (by have:=m4.size;omega) (hnow b hb)).trans ((m5.same b (by have:=m4.size;omega) (hnow b hb)).trans (m4.same b hl id))
    ·refine aN.keep o4 fun b hb hl=>?_
     have:=f4 b hb
     exact(m6.same b (by omega) (by omega)).trans (m5.same b hl (by omega))
    ·intro b hb hb2
     have:=f4 b hb2
     have:=hFl3.now.lt b hb
     omega
   have hm:Mod gf.fp H3 H6:=by
    refine⟨by have:=m4.size;omega,fun b hb hn=>?_⟩
    have hne:b≠gf.p:=fun e=>hn (.inl e)
    have:=m4.size
    exact(m6.same b (by omega) hne).trans ((m5.same b (by omega) hne).trans (m4.same b hb id))
   have hdx:=dg.kF g3.head g3.files
   have hgm:=List.mem_of_getElem? hg
   have hu:=Dk.gK (s:=s.change.1) (g:=fun f=>{f with synced:=f.ao,log:=[]}) hf3
   have hu':(s.change.1.wu i fun f=>{f with synced:=f.ao,log:=[]}).used=s.change.1.used:=by
    have e:({f with synced:=f.ao,log:=[]}:Fl).ao.length=f.ao.length:=rfl
    omega
   obtain⟨g6,ho⟩:=dg.Cd (d:=d) (t:=s.change.1.wu i fun f=>{f with synced:=f.ao,log:=[]}) (u:=fun f=>{f with synced:=f.ao,log:=[]}) (g':={gf with syn:=s1,log:=Sl.mk none 0 0}) g3.files hf3 hg rfl rfl q hm (by
     rintro b (e|hb|hb|⟨ad,hb,_⟩)
     ·exact .inl (.inl e)
     ·exact .inl (.inr (.inl hb))
     ·exact .inr (f4 b hb)
     ·cases hb) rfl (by rw[hu'];exact g3.head.mod hm fun hb=>hdx (.inr ⟨gf,hgm,hb⟩)) g3.crash (g3.wf.modify (g:=fun f=>{f with synced:=f.ao,log:=[]}) hf3 rfl rfl (by rw[hu'];exact hw1) hw2 rfl rfl rfl)
   obtain⟨F',q1,q2⟩:=g6.out (x:=x) (F:=F) (H:=H) hF ((m3.mono fun b _ e=>(hF b).2 (.inl e)).trans (hm.mono fun b _ e=>(hF b).2 (.inr (.inr ⟨gf,hgm,e⟩)))) (fun b hb=>(ho b hb).imp id (fun q=>by omega))
   exact hK F' H6 q1 q2
  ·have hz':s.change.2≠0:=by simpa using hz
   rw[if_neg hz'] at hK
   obtain⟨F',q1,q2⟩:=g3.out (x:=x) (F:=F) (H:=H) hF (m3.mono fun b _ e=>(hF b).2 (.inl e)) (fun b q=>.inl q)
   exact hK F' H3 q1 q2
theorem AB:(zc Tryz.prog qS).toList=pZ.enc Bz:=by kernel_rfl
theorem AU {l:Sl} {ps:List Pg} {page:Nat} {no:Int} {b:Pg} {H:Heap} {K:Sl→Heap→Prop} (h:aG pZ qS H l ps) (hlen:ps.length≤2097152) (hpage:page<2097152)
  (hK:∀l' H',aG pZ qS H' l' (cY ps ⟨no,page,b⟩)→Grown l l' H H'→K l' H'):BL.sp l page (eX b.1).toArray H K:=by
 refine BL.of ?_
 unfold BL.vc
 refine au fun H1 s1 r1 m1=>?_
 have own0:=h.lt
 refine⟨Nat,fun k l1 H2=>aG pZ qS H2 l1 (ps++List.replicate k Bz)∧k≤page+1 - ps.length∧Mod (aj l) H1 H2∧(∀b,aj l1 b→aj l b∨H1.size≤b),fun k=>page+1 - ps.length - k,⟨0,by simpa using aN.ext h m1,Nat.zero_le _,.refl _ _,fun b hb=>.inl hb⟩,?_⟩
 rintro k l1 H2 ⟨o2,hk,m2,f2⟩
 have hn:l1.n=ps.length+k:=by rw[aG.n o2 (by decide)];simp
 refine ag (fun hc=>?_) (fun hc=>?_)
 ·have hc':l1.n≤page:=by simpa using hc
  refine aG.wk (E:=pZ) rO (x:=Bz) (cs:=zc Tryz.prog qS) o2 AB (by decide) (by simp;omega) (by simp;omega) fun s' H' o' g' _=>?_
  refine⟨k+1,⟨?_,by omega,?_,?_⟩,by show _ - _<_ - _;omega⟩
  ·rw[List.append_assoc,←List.replicate_succ'] at o';exact o'
  ·grind [Mod]
  ·grind [Mod]
 ·have hc':page<l1.n:=by simpa using hc
  have hp:ai H2 H.size qS (eX b.1).toArray:=r1.mod m2 (fun hb=>by have:=own0 _ hb;omega)
  refine hp.dE (c:=iA) (x:=(eX b.1).toArray) rfl (by simp[eX,b.2]) ?_
  obtain⟨ad,ha⟩:=cL.addr o2.rd (by decide) (by simp;omega)
  rw[ha]
  refine⟨⟨by omega,by omega⟩,?_⟩
  refine aG.GI (E:=pZ) o2 ha (i:=page) (y:=b) (by simp;omega) (by simp[pZ]) (by kernel_rfl) (by simp[pZ]) fun H3 o3 m3 s3=>?_
  have hkk:k=page+1 - ps.length:=by omega
  refine hK l1 H3 (by unfold cY;rw[←hkk];exact o3) ⟨?_,?_⟩
  ·grind [Mod]
  ·grind [Mod]
end Go.Proofs.YtdpdmbceakdlmaaGreatDoor
