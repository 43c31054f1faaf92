/-
 The disk: what it tells of itself; a change; files looked up and made.
-/
import Derived.Test.YtmkbhnholcaghaaGreatDoorDka
open Go.Proofs.Tryz renaming prog->NX
open Option.some renaming injEq->OV
open Prod.mk renaming injEq->OZ
namespace Go.Proofs.YtmkbhnholcaghaaGreatDoor
open Go.MapKept
abbrev aE (d:Nat):Option Addr:=some ⟨d,0,none⟩
theorem HW {F:Nat->Prop}{d:Nat}{s:Dk}{H:aa}{K:Int->aa->Prop}(h:bo F H d s)(a:K s.most H):JY.sp (aE d) H K:=by
 obtain⟨x,cin,kp,g,_⟩:=h;refine JY.of ?_;unfold JY.vc;exact g.head.ld (c:=ab .i64) (i:=2) rfl a
theorem Lg {F:Nat->Prop}{d:Nat}{s:Dk}{H:aa}{K:Int->aa->Prop}(h:bo F H d s)(a:K s.ops H):JS.sp (aE d) H K:=by
 obtain⟨x,cin,kp,g,_⟩:=h;refine JS.of ?_;unfold JS.vc;exact g.head.ld (c:=ab .i64) (i:=4) rfl a
theorem IJ {F:Nat->Prop}{d:Nat}{s:Dk}{H:aa}{K:Bool->aa->Prop}(h:bo F H d s)(a:K s.down H):JR.sp (aE d) H K:=by
 obtain⟨x,cin,kp,g,_⟩:=h;refine JR.of ?_;unfold JR.vc;exact g.head.ld (c:=ay) (i:=9) rfl a
theorem Gc {q:Int}{H:aa}{K:Option Addr->aa->Prop}(o:q<=9223372036854775807)(a:∀F d H',bo F H' d (q9 q)->Mod (λ_=>False) H H'->(∀b,F b->H.size<=b)->K (aE d) H'):Hf.sp q H K:=by
 refine Hf.of ?_;unfold Hf.vc;refine rz (d:=.string) λH1 c m1 l=>?_;refine ax λm s2 r2 e2=>?_;refine a (λb=>b=H1.size\/b=H.size) _ m ⟨⟨H.size,#[],0,[]⟩,0,0,⟨?_,?_,?_,?_⟩,?_⟩ (l.trans e2) ?_
 ·have:((if (1048576:Int)<(if (0:Int)>q then (0:Int) else q) then (1048576:Int) else (if (0:Int)>q then (0:Int) else q)))=((q9 q).quota:Int):=by
   unfold q9;simp only;split<;>split<;>omega
  rw[this] at r2;exact r2
 ·intro i k h;cases h
 ·exact⟨m1.keep (e2.at m1.obj id |>.trans m1.obj.symm),rfl,rfl,by intro i f g h;simp[q9] at h,by rintro k v ⟨e,he,_⟩;simp at he,by intro i j g g' h;simp at h⟩
 ·exact⟨by simp[q9],by simp[q9,Dk.used],by simp[q9],by simp[q9];omega,by simp[q9],by simp[q9],by intro i k h;cases h⟩
 ·intro b;constructor
  ·rintro(e|e)
   ·exact .inl e
   ·exact .inr (.inl e)
  ·rintro(e|e|⟨g,n,_⟩)
   ·exact .inl e
   ·exact .inr e
   ·simp at n
 ·rintro b (e|e)<;>omega
theorem dh.di {x:DG}{cin kp a c:Int}{H H':aa}{d:Nat}{s s':Dk}(h:dh x cin kp H d s)(g:aj H' d xi (fh x.m s'.used s'.most s'.quota s'.ops s'.next s'.crash.isSome a c s'.down))
  (hm:Mod (λb=>b=d) H H') (i:s'.files=s.files) (j:j9 s' a c) (f:s'.WF):dh x a c H' d s':=
 ⟨g,j,by rw[i];exact h.files.keep λb k hl=>hm.same b hl λe=>dh.lM h.head h.files (e▸k),f⟩
theorem Dk.WF.change {s:Dk}(h:s.WF):s.change.1.WF:=by
 unfold Dk.change;split
 ·rename_i a;exact⟨h.nodup,h.used,h.most,h.quota,h.files,by intro hd;have:=h.down hd;rw[a] at this;simp at this,by intro i k e;rw[a] at e;cases e⟩
 ·rename_i i k a;have hi:=h.cin i k a;split
  ·exact⟨h.nodup,h.used,h.most,h.quota,h.files,λ_=>by simp[a],h.cin⟩
  ·refine⟨h.nodup,h.used,h.most,h.quota,h.files,λ_=>rfl,λb c e=>?_⟩;simp only[OV,OZ] at e;obtain⟨rfl,rfl⟩:=e;unfold fu;rw[wrap64 (by omega) (by omega)];omega
theorem Dk.bm (s:Dk):s.change.1.files=s.files:=by
 unfold Dk.change;split
 ·rfl
 ·split<;>rfl
theorem Dk.lV (s:Dk):s.change.1.most=s.most/\s.change.1.quota=s.quota/\s.change.1.next=s.next/\s.change.1.used=s.used:=by
 unfold Dk.change;split
 ·exact⟨rfl,rfl,rfl,rfl⟩
 ·split<;>exact⟨rfl,rfl,rfl,rfl⟩
theorem mP {x:DG}{cin kp:Int}{d:Nat}{s:Dk}{H:aa}{K:Int->aa->Prop}(h:dh x cin kp H d s)
  (u:∀a H',dh x a kp H' d s.change.1->Mod (λb=>b=d) H H'->H'.size=H.size->K s.change.2 H'):DC.sp (aE d) H K:=by
 refine DC.of ?_;unfold DC.vc;simp only[al,add_add,Nat.reduceAdd];have n:=h.wf.change;have o:=s.bm;have f:∀(a:Int) (H':aa),aj H' d xi (fh x.m s.change.1.used s.change.1.most s.change.1.quota s.change.1.ops s.change.1.next s.change.1.crash.isSome a kp s.change.1.down)->j9 s.change.1 a kp->Mod (λb=>b=d) H H'->H'.size=H.size->K s.change.2 H':=
  λa H' v g hm hs=>u a H' (h.di v hm o g n) hm hs
 refine h.head.ld (c:=ay) (i:=6) (x:=s.crash.isSome) rfl ?_;have l:=h.head;have m:=h.crash;cases g:s.crash with
 |none=>
   refine aC rfl ?_;refine l.ld (c:=ab .i64) (i:=4) (x:=s.ops) rfl ?_;refine l.st (i:=4) (by decide:4<10) (by rfl) λH' r' p s'=>?_;have e:s.change=({s with ops:=fu (s.ops+1)},0):=by unfold Dk.change;rw[g]
   rw[e] at f;exact f cin H' r' (by intro i k q;rw[show ({s with ops:=fu (s.ops+1)}:Dk).crash=s.crash from rfl,g] at q;cases q) p s'
 |some w=>
   obtain⟨i,k⟩:=w;obtain⟨rfl,rfl⟩:=m i k g;refine aP rfl ?_;refine l.ld (c:=ab .i64) (i:=7) (x:=cin) rfl ?_;refine ah (λr=>?_) (λr=>?_)
   ·have j:cin=0:=by simpa using r
    have e:s.change=({s with down:=true},4):=by unfold Dk.change;rw[g];simp[j]
    rw[e] at f;refine l.st (i:=9) (by decide:9<10) (by rfl) λH' r' p s'=>?_;exact f cin H' r' (by intro i k q;exact m i k q) p s'
   ·have j:cin≠0:=by simpa using r
    have e:s.change=({s with crash:=some (fu (cin - 1),kp),ops:=fu (s.ops+1)},0):=by unfold Dk.change;rw[g];simp[j]
    rw[e] at f;refine l.ld (c:=ab .i64) (i:=7) (x:=cin) rfl ?_;refine l.st (i:=7) (by decide:7<10) (by rfl) λH1 t m1 s1=>?_;refine t.ld (c:=ab .i64) (i:=4) (x:=s.ops) rfl ?_;refine t.st (i:=4) (by decide:4<10) (by rfl) λy r2 m2 s2=>?_;refine f (fu (cin - 1)) y ?_ (by intro i k q;simp only[OV,OZ] at q;exact q) (m1.trans m2) (by omega);rw[g] at r2;exact r2
theorem lF:Fh NX yI dH .string:=rR (by kernel_rfl) (by kernel_rfl)
theorem pT {x:DG}{fs:List Fl}{s:Dk}{H:aa}{n:ByteArray}{K:(Option Addr×Bool)->Prop}(h:aW H x fs)(a:s.files=fs)(hw:s.WF)
  (l:∀i f g,s.idx n=some i->fs[i]?=some f->f.name=n->x.gs[i]?=some g->cA H g f->K (some ⟨g.p,0,none⟩,true)) (m:s.idx n=none->K (none,false)):
  Dr (aR [av,ay]) NX (Instr.lookup yI (.map (some x.m)) (.string n) true) H K:=by
 obtain⟨w,inf,hu,hd,hi,o⟩:=lF;refine sG hu hd hi o h.map (k:=.string n) trivial ?_ ?_
 ·rintro v p;obtain⟨i,f,g,h1,d,q,r⟩:=h.ent' _ _ p;have e:n=f.name:=by cases q;rfl
  have b:s.idx n=some i:=by rw[e];exact Dk.idx_eq hw (by rw[a];exact h1)
  exact⟨(some ⟨g.p,0,none⟩,true),by rw[r];rfl,l i f g b h1 e.symm d (h.ent i f g h1 d).2⟩
 ·intro c;refine⟨(none,false),rfl,m ?_⟩;cases t:s.idx n with
  |none=>rfl
  |some i=>
    obtain⟨f,j,u⟩:=Dk.cg t;rw[a] at j;obtain⟨g,_,he,_⟩:=h.BD j;rw[u] at he;exact absurd he (c _)
theorem oa {x:DG}{cin kp:Int}{d:Nat}{s:Dk}{H:aa}{n:ByteArray}{K:(Option Addr×Int)->aa->Prop}(h:dh x cin kp H d s)
  (a:s.down=true->K (none,4) H) (b:s.down=false->s.idx n=none->K (none,11) H)
  (e:∀i f g,s.down=false->s.idx n=some i->s.files[i]?=some f->f.name=n->x.gs[i]?=some g->cA H g f->K (aE g.p,0) H):Dq.sp (aE d) n H K:=by
 refine Dq.of ?_;unfold Dq.vc;refine lI h.head (down:=s.down) rfl ?_;cases hd:s.down with
 |true=>exact a hd
 |false=>
   refine aC rfl ?_;refine h.head.ld (c:=bT) (i:=0) (x:=some x.m) rfl ?_;refine pT h.files rfl h.wf (λi f g h1 j k l m=>?_) (λh1=>?_)
   ·exact e i f g hd h1 j k l m
   ·exact b hd h1
theorem tC {F:Nat->Prop}{d:Nat}{s:Dk}{H:aa}{n:ByteArray}{K:(Int×Int)->aa->Prop}(h:bo F H d s)(a:K ((s.len n).1,(s.len n).2) H):DA.sp (aE d) n H K:=by
 obtain⟨x,cin,kp,g,_⟩:=h;refine DA.of ?_;unfold DA.vc;refine oa g (λhd=>?_) (λhd j=>?_) (λi f k hd hi l m o b=>?_)
 ·have e:s.len n=(0,4):=by unfold Dk.len Dk.open;rw[hd];rfl
  rw[e] at a;exact a
 ·have e:s.len n=(0,11):=by unfold Dk.len Dk.open;rw[hd,j];rfl
  rw[e] at a;exact a
 ·have e:s.len n=(f.aq.length,0):=by unfold Dk.len Dk.open;rw[hd,hi];simp[Dk.dt l]
  rw[e] at a;refine aC rfl ?_;refine b.row.ld (c:=ak) (i:=0) (x:=k.now) rfl ?_;have:=b.now.n (by decide);rw[this];exact a
end Go.Proofs.YtmkbhnholcaghaaGreatDoor
