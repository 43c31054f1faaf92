/-
 The disk: copies of pages, Sync, a page put, Write.
-/
import Derived.Test.YtmkbhnholcaghaaGreatDoorDkd
open Go.Proofs.Tryz renaming prog->N5
open Nat renaming le_trans->Oo
namespace Go.Proofs.YtmkbhnholcaghaaGreatDoor
open Go.MapKept
theorem vQ:qZ N5 Ir uA tP.size 512:=eK (by kernel_rfl)
theorem K8:qZ N5 Lq qR wQ.size 528:=eK (by kernel_rfl)
theorem js {s:Sl}{l:List Pg}{H:aa}{K:Sl->aa->Prop}(h:az tP uA H s l)(hl:l.length<=2097152)
  (c:∀s' H',az tP uA H' s' l->Mod (λ_=>False) H H'->(∀b,ag s' b->H.size<=b)->K s' H'):Du.sp s H K:=by
 refine Du.of ?_;unfold Du.vc;refine ah (λd=>?_) (λd=>?_)
 ·have:=az.Mn h (by decide) (by simpa using d);subst this;exact c _ H (az.nil _ _ _) (.refl _ _) (by rintro b ⟨ad,q,_⟩;cases q)
 ·refine KB (E:=tP) vQ λs1 H1 e m1 f1 _=>?_;refine az.append vQ e (x:=s) (r:=l) (bP.keep h.rd λad i hl=>m1.same _ hl id) (h.n (by decide)) (by simp;omega) (by simp;omega) λs' H' f g' _=>?_;refine c s' H' f ⟨Oo m1.size g'.1.size,λb a _=>(g'.1.same b (by have:=m1.size;omega) λg=>?_).trans (m1.same b a id)⟩ (λb a=>?_)
  ·have:=f1 b g;omega
  ·rcases g'.2 b a with q|q
   ·exact f1 b q
   ·exact Oo m1.size q
theorem di.I2 {x:DG}{a c:Int}{H H':aa}{d:Nat}{s t:Dk}(h:aW H x s.files){i:Nat}{f:Fl}{g g':FG}{u:Fl->Fl}(j:s.files[i]?=some f)(k:x.gs[i]?=some g)(l:g'.p=g.p)(m:(u f).name=f.name)(n:cC H' g' (u f))
  (hm:Mod g.fp H H') (o:∀b,g'.fp b->g.fp b\/H.size<=b) (p:t.files=s.files.modify i u) (q:aj H' d xp (fi x.m t.used t.most t.quota t.ops t.next t.crash.isSome a c t.down)) (r:ke t a c) (e:t.WF):
  di {x with gs:=x.gs.set i g'} a c H' d t/\(∀b,DG.fp {x with gs:=x.gs.set i g'} b->x.fp b\/H.size<=b):=by
 obtain⟨h1,v⟩:=h.set j k l m n hm o;rw[<-aZ j,<-p] at h1;exact⟨⟨q,r,h1,e⟩,v⟩
theorem Hl {F:Nat->Prop}{d:Nat}{s:Dk}{H:aa}{n:ByteArray}{K:Int->aa->Prop}(h:bo F H d s)
  (p:∀F' H',bo F' H' d (s.sync n).1->Step F F' H H'->K (s.sync n).2 H'):Ke.sp (aE d) n H K:=by
 have R:=h;obtain⟨x,cin,kp,g,v⟩:=h;refine Ke.of ?_;unfold Ke.vc;have stay:∀e:Int,s.sync n=(s,e)->K e H:=by
  intro e he;have:=p F H (by rw[he];exact R) (.refl _ _);rw[he] at this;exact this
 refine od g (λhd=>?_) (λhd S=>?_) (λi f k hd hi T P A U=>?_)
 ·exact stay 4 (by unfold Dk.sync;rw[hd];rfl)
 ·exact stay 11 (by unfold Dk.sync;rw[hd,S];rfl)
 ·refine aC rfl ?_;have V:s.sync n=s.step λt=>t.GS i λf=>{f with synced:=f.aq,log:=[]}:=by unfold Dk.sync;rw[hd,hi];rfl
  rw[V] at p;unfold Dk.step at p;refine mR g λQ B g3 m3 s3=>?_;have C:=s.bm;have l:s.change.1.files[i]?=some f:=by rw[C];exact T
  refine ah (λD=>?_) (λD=>?_)
  ·have m:s.change.2=0:=by simpa using D
   rw[if_pos m] at p;rw[m];simp only[al];have a:=(g3.files.ent i f k l A).2;refine a.row.ld (c:=ak) (i:=0) (x:=k.now) rfl ?_;have W:=Dk.eQ l;have r:=g3.wf;have E:=r.used;have G:=r.most;have X:=r.quota;refine js a.now (by omega) λs1 H4 Y m4 f4=>?_;have I:=a.row.ext m4;refine I.st (i:=1) (by simp) (by rfl) λH5 Z m5 s5=>?_;refine Z.st (i:=2) (by simp) (by rfl) λJ r6 m6 s6=>?_;have af:k.p<B.size:=aA a.row;have o:∀b,ag k.now b->b≠k.p:=λb j e=>by
    obtain⟨c,q⟩:=a.now.obj b j;rw[e] at q;exact absurd (aF a.row q) (by decide)
   have q:cC J {k with syn:=s1,log:=Sl.mk none 0 0} ⟨f.name,f.aq,[]⟩:=by
    refine⟨r6,?_,?_,az.nil _ _ _,?_⟩
    ·exact aM.keep (a.now) λb j hl=>(m6.same b (by have:=m4.size;omega) (o b j)).trans ((m5.same b (by have:=m4.size;omega) (o b j)).trans (m4.same b hl id))
    ·refine aM.keep Y λb j hl=>?_;have:=f4 b j;exact(m6.same b (by omega) (by omega)).trans (m5.same b hl (by omega))
    ·intro b j L;have:=f4 b L;have:=a.now.lt b j;omega
   have hm:Mod k.fp B J:=by
    refine⟨by have:=m4.size;omega,λb j P=>?_⟩;have w:b≠k.p:=λe=>P (.inl e);have:=m4.size;exact(m6.same b (by omega) w).trans ((m5.same b (by omega) w).trans (m4.same b j id))
   have M:=di.lO g3.head g3.files;have y:=List.mem_of_getElem? A;have hu:=Dk.jc (s:=s.change.1) (g:=λf=>{f with synced:=f.aq,log:=[]}) l;have z:(s.change.1.GS i λf=>{f with synced:=f.aq,log:=[]}).used=s.change.1.used:=by
    have e:({f with synced:=f.aq,log:=[]}:Fl).aq.length=f.aq.length:=rfl;omega
   obtain⟨g6,ho⟩:=di.I2 (d:=d) (t:=s.change.1.GS i λf=>{f with synced:=f.aq,log:=[]}) (u:=λf=>{f with synced:=f.aq,log:=[]}) (g':={k with syn:=s1,log:=Sl.mk none 0 0}) g3.files l A rfl rfl q hm (by
     rintro b (e|j|j|⟨ad,j,_⟩)
     ·exact .inl (.inl e)
     ·exact .inl (.inr (.inl j))
     ·exact .inr (f4 b j)
     ·cases j) rfl (by rw[z];exact g3.head.mod hm λj=>M (.inr ⟨k,y,j⟩)) g3.crash (g3.wf.modify (g:=λf=>{f with synced:=f.aq,log:=[]}) l rfl rfl (by rw[z];exact E) G rfl rfl rfl)
   obtain⟨F',N,O⟩:=g6.out (x:=x) (F:=F) (H:=H) v ((m3.mono λb _ e=>(v b).2 (.inl e)).trans (hm.mono λb _ e=>(v b).2 (.inr (.inr ⟨k,y,e⟩)))) (λb j=>(ho b j).imp id (λq=>by omega));exact p F' J N O
  ·have m:s.change.2≠0:=by simpa using D
   rw[if_neg m] at p;obtain⟨F',N,O⟩:=g3.out (x:=x) (F:=F) (H:=H) v (m3.mono λb _ e=>(v b).2 (.inl e)) (λb q=>.inl q);exact p F' B N O
theorem Gv:(zc N5 uA).toList=tP.enc GF:=by kernel_rfl
theorem Ep {l:Sl}{ps:List Pg}{page:Nat}{no:Int}{b:Pg}{H:aa}{K:Sl->aa->Prop}(h:az tP uA H l ps)(hlen:ps.length<=2097152)(g:page<2097152)
  (s:∀j H',az tP uA H' j (dN ps ⟨no,page,b⟩)->Grown l j H H'->K j H'):GB.sp l page (fZ b.1).toArray H K:=by
 refine GB.of ?_;unfold GB.vc;refine ax λH1 s1 t m1=>?_;have d:=h.lt;refine⟨Nat,λk a e=>az tP uA e a (ps++List.replicate k GF)/\k<=page+1 - ps.length/\Mod (ag l) H1 e/\(∀b,ag a b->ag l b\/H1.size<=b),λk=>page+1 - ps.length - k,⟨0,by simpa using aM.ext h m1,Nat.zero_le _,.refl _ _,λb m=>.inl m⟩,?_⟩;rintro k a e ⟨f,hk,m2,f2⟩;have z:a.n=ps.length+k:=by rw[az.n f (by decide)];simp
 refine ah (λn=>?_) (λn=>?_)
 ·have o:a.n<=page:=by simpa using n
  refine az.BA (E:=tP) vQ (x:=GF) (cs:=zc N5 uA) f Gv (by decide) (by simp;omega) (by simp;omega) λs' H' q g' _=>?_;refine⟨k+1,⟨?_,by omega,?_,?_⟩,by show _ - _<_ - _;omega⟩
  ·rw[List.append_assoc,<-List.replicate_succ'] at q;exact q
  ·grind [Mod]
  ·grind [Mod]
 ·have o:page<a.n:=by simpa using n
  have u:aj e H.size uA (fZ b.1).toArray:=t.mod m2 (λm=>by have:=d _ m;omega);refine u.c8 (c:=jQ) (x:=(fZ b.1).toArray) rfl (by simp[fZ,b.2]) ?_;obtain⟨ad,r⟩:=bP.addr f.rd (by decide) (by simp;omega);rw[r];refine⟨⟨by omega,by omega⟩,?_⟩;refine az.LN (E:=tP) f r (i:=page) (y:=b) (by simp;omega) (by simp[tP]) (by kernel_rfl) (by simp[tP]) λv w m3 A=>?_;have p:k=page+1 - ps.length:=by omega
  refine s a v (by unfold dN;rw[<-p];exact w) ⟨?_,?_⟩
  ·grind [Mod]
  ·grind [Mod]
end Go.Proofs.YtmkbhnholcaghaaGreatDoor
