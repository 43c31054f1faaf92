/-
 The disk: copies of pages, Sync, a page put, Write.
-/
import Derived.Test.YtmkbhnholcaghaaGreatDoorDkd
open Go.Proofs.Tryz renaming prog->Oj
open Nat renaming le_trans->OE
namespace Go.Proofs.YtmkbhnholcaghaaGreatDoor
open Go.MapKept
theorem vY:rq Oj Ix uL tZ.size 512:=eL (by kernel_rfl)
theorem Lg:rq Oj Lz qZ w5.size 528:=eL (by kernel_rfl)
theorem jx {s:Sl}{l:List Pg}{H:aa}{K:Sl->aa->Prop}(h:az tZ uL H s l)(hl:l.length<=2097152)
  (c:∀s' H',az tZ uL H' s' l->Mod (λ_=>False) H H'->(∀b,ah s' b->H.size<=b)->K s' H'):DI.sp s H K:=by
 refine DI.of ?_;unfold DI.vc;refine ag (λd=>?_) (λd=>?_)
 ·have:=az.Mw h (by decide) (by simpa using d);subst this;exact c _ H (az.nil _ _ _) (.refl _ _) (by rintro b ⟨ad,q,_⟩;cases q)
 ·refine KH (E:=tZ) vY λs1 H1 e m1 f1 _=>?_;refine az.append vY e (x:=s) (r:=l) (bQ.keep h.rd λad i hl=>m1.same _ hl id) (h.n (by decide)) (by simp;omega) (by simp;omega) λs' H' f g' _=>?_;refine c s' H' f ⟨OE m1.size g'.1.size,λb a _=>(g'.1.same b (by have:=m1.size;omega) λg=>?_).trans (m1.same b a id)⟩ (λb a=>?_)
  ·have:=f1 b g;omega
  ·rcases g'.2 b a with q|q
   ·exact f1 b q
   ·exact OE m1.size q
theorem dj.I8 {x:DG}{a c:Int}{H H':aa}{d:Nat}{s t:Dk}(h:aX H x s.files){i:Nat}{f:Fl}{g g':FG}{u:Fl->Fl}(j:s.files[i]?=some f)(k:x.gs[i]?=some g)(l:g'.p=g.p)(m:(u f).name=f.name)(n:cD H' g' (u f))
  (hm:Mod g.fp H H') (o:∀b,g'.fp b->g.fp b\/H.size<=b) (p:t.files=s.files.modify i u) (q:aj H' d xB (fm x.m t.used t.most t.quota t.ops t.next t.crash.isSome a c t.down)) (r:ku t a c) (e:t.WF):
  dj {x with gs:=x.gs.set i g'} a c H' d t/\(∀b,DG.fp {x with gs:=x.gs.set i g'} b->x.fp b\/H.size<=b):=by
 obtain⟨h1,v⟩:=h.set j k l m n hm o;rw[<-aZ j,<-p] at h1;exact⟨⟨q,r,h1,e⟩,v⟩
theorem Hs {F:Nat->Prop}{d:Nat}{s:Dk}{H:aa}{n:ByteArray}{K:Int->aa->Prop}(h:bo F H d s)
  (p:∀F' H',bo F' H' d (s.sync n).1->Step F F' H H'->K (s.sync n).2 H'):Kj.sp (aE d) n H K:=by
 have R:=h;obtain⟨x,cin,kp,g,v⟩:=h;refine Kj.of ?_;unfold Kj.vc;have stay:∀e:Int,s.sync n=(s,e)->K e H:=by
  intro e he;have:=p F H (by rw[he];exact R) (.refl _ _);rw[he] at this;exact this
 refine oo g (λhd=>?_) (λhd S=>?_) (λi f k hd hi T P A U=>?_)
 ·exact stay 4 (by unfold Dk.sync;rw[hd];rfl)
 ·exact stay 11 (by unfold Dk.sync;rw[hd,S];rfl)
 ·refine aC rfl ?_;have V:s.sync n=s.step λt=>t.G0 i λf=>{f with synced:=f.aq,log:=[]}:=by unfold Dk.sync;rw[hd,hi];rfl
  rw[V] at p;unfold Dk.step at p;refine nf g λQ B g3 m3 s3=>?_;have C:=s.bm;have l:s.change.1.files[i]?=some f:=by rw[C];exact T
  refine ag (λD=>?_) (λD=>?_)
  ·have m:s.change.2=0:=by simpa using D
   rw[if_pos m] at p;rw[m];simp only[al];have a:=(g3.files.ent i f k l A).2;refine a.row.ld (c:=ak) (i:=0) (x:=k.now) rfl ?_;have W:=Dk.eR l;have r:=g3.wf;have E:=r.used;have G:=r.most;have X:=r.quota;refine jx a.now (by omega) λs1 H4 Y m4 f4=>?_;have I:=a.row.ext m4;refine I.st (i:=1) (by simp) (by rfl) λH5 Z m5 s5=>?_;refine Z.st (i:=2) (by simp) (by rfl) λJ r6 m6 s6=>?_;have af:k.p<B.size:=aA a.row;have o:∀b,ah k.now b->b≠k.p:=λb j e=>by
    obtain⟨c,q⟩:=a.now.obj b j;rw[e] at q;exact absurd (aG a.row q) (by decide)
   have q:cD J {k with syn:=s1,log:=Sl.mk none 0 0} ⟨f.name,f.aq,[]⟩:=by
    refine⟨r6,?_,?_,az.nil _ _ _,?_⟩
    ·exact aO.keep (a.now) λb j hl=>(m6.same b (by have:=m4.size;omega) (o b j)).trans ((m5.same b (by have:=m4.size;omega) (o b j)).trans (m4.same b hl id))
    ·refine aO.keep Y λb j hl=>?_;have:=f4 b j;exact(m6.same b (by omega) (by omega)).trans (m5.same b hl (by omega))
    ·intro b j L;have:=f4 b L;have:=a.now.lt b j;omega
   have hm:Mod k.fp B J:=by
    refine⟨by have:=m4.size;omega,λb j P=>?_⟩;have w:b≠k.p:=λe=>P (.inl e);have:=m4.size;exact(m6.same b (by omega) w).trans ((m5.same b (by omega) w).trans (m4.same b j id))
   have M:=dj.lV g3.head g3.files;have y:=List.mem_of_getElem? A;have hu:=Dk.jg (s:=s.change.1) (g:=λf=>{f with synced:=f.aq,log:=[]}) l;have z:(s.change.1.G0 i λf=>{f with synced:=f.aq,log:=[]}).used=s.change.1.used:=by
    have e:({f with synced:=f.aq,log:=[]}:Fl).aq.length=f.aq.length:=rfl;omega
   obtain⟨g6,ho⟩:=dj.I8 (d:=d) (t:=s.change.1.G0 i λf=>{f with synced:=f.aq,log:=[]}) (u:=λf=>{f with synced:=f.aq,log:=[]}) (g':={k with syn:=s1,log:=Sl.mk none 0 0}) g3.files l A rfl rfl q hm (by
     rintro b (e|j|j|⟨ad,j,_⟩)
     ·exact .inl (.inl e)
     ·exact .inl (.inr (.inl j))
     ·exact .inr (f4 b j)
     ·cases j) rfl (by rw[z];exact g3.head.mod hm λj=>M (.inr ⟨k,y,j⟩)) g3.crash (g3.wf.modify (g:=λf=>{f with synced:=f.aq,log:=[]}) l rfl rfl (by rw[z];exact E) G rfl rfl rfl)
   obtain⟨F',N,O⟩:=g6.out (x:=x) (F:=F) (H:=H) v ((m3.mono λb _ e=>(v b).2 (.inl e)).trans (hm.mono λb _ e=>(v b).2 (.inr (.inr ⟨k,y,e⟩)))) (λb j=>(ho b j).imp id (λq=>by omega));exact p F' J N O
  ·have m:s.change.2≠0:=by simpa using D
   rw[if_neg m] at p;obtain⟨F',N,O⟩:=g3.out (x:=x) (F:=F) (H:=H) v (m3.mono λb _ e=>(v b).2 (.inl e)) (λb q=>.inl q);exact p F' B N O
theorem GF:(zc Oj uL).toList=tZ.enc GO:=by kernel_rfl
theorem EE {l:Sl}{ps:List Pg}{page:Nat}{no:Int}{b:Pg}{H:aa}{K:Sl->aa->Prop}(h:az tZ uL H l ps)(hlen:ps.length<=2097152)(g:page<2097152)
  (s:∀j H',az tZ uL H' j (dP ps ⟨no,page,b⟩)->Grown l j H H'->K j H'):GL.sp l page (gk b.1).toArray H K:=by
 refine GL.of ?_;unfold GL.vc;refine av λH1 s1 t m1=>?_;have d:=h.lt;refine⟨Nat,λk a e=>az tZ uL e a (ps++List.replicate k GO)/\k<=page+1 - ps.length/\Mod (ah l) H1 e/\(∀b,ah a b->ah l b\/H1.size<=b),λk=>page+1 - ps.length - k,⟨0,by simpa using aO.ext h m1,Nat.zero_le _,.refl _ _,λb m=>.inl m⟩,?_⟩;rintro k a e ⟨f,hk,m2,f2⟩;have z:a.n=ps.length+k:=by rw[az.n f (by decide)];simp
 refine ag (λn=>?_) (λn=>?_)
 ·have o:a.n<=page:=by simpa using n
  refine az.L8 (E:=tZ) vY (x:=GO) (cs:=zc Oj uL) f GF (by decide) (by simp;omega) (by simp;omega) λs' H' q g' _=>?_;refine⟨k+1,⟨?_,by omega,?_,?_⟩,by show _ - _<_ - _;omega⟩
  ·rw[List.append_assoc,<-List.replicate_succ'] at q;exact q
  ·grind [Mod]
  ·grind [Mod]
 ·have o:page<a.n:=by simpa using n
  have u:aj e H.size uL (gk b.1).toArray:=t.mod m2 (λm=>by have:=d _ m;omega);refine u.c9 (c:=jU) (x:=(gk b.1).toArray) rfl (by simp[gk,b.2]) ?_;obtain⟨ad,r⟩:=bQ.addr f.rd (by decide) (by simp;omega);rw[r];refine⟨⟨by omega,by omega⟩,?_⟩;refine az.LX (E:=tZ) f r (i:=page) (y:=b) (by simp;omega) (by simp[tZ]) (by kernel_rfl) (by simp[tZ]) λv w m3 A=>?_;have p:k=page+1 - ps.length:=by omega
  refine s a v (by unfold dP;rw[<-p];exact w) ⟨?_,?_⟩
  ·grind [Mod]
  ·grind [Mod]
end Go.Proofs.YtmkbhnholcaghaaGreatDoor
