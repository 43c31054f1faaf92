/-
 The disk: what it tells of itself; a change; files looked up and made.
-/
import Derived.Test.YtmkbhnholcaghaaGreatDoorDka
open Go.Proofs.Tryz renaming prog->Oj
open Option.some renaming injEq->Pj
open Prod.mk renaming injEq->Pp
namespace Go.Proofs.YtmkbhnholcaghaaGreatDoor
open Go.MapKept
abbrev aE (d:Nat):Option Addr:=some ⟨d,0,none⟩
theorem Ij {F:Nat->Prop}{d:Nat}{s:Dk}{H:aa}{K:Int->aa->Prop}(h:bo F H d s)(a:K s.most H):Jm.sp (aE d) H K:=by
 obtain⟨x,cin,kp,g,_⟩:=h;refine Jm.of ?_;unfold Jm.vc;exact g.head.ld (c:=ab .i64) (i:=2) rfl a
theorem Lv {F:Nat->Prop}{d:Nat}{s:Dk}{H:aa}{K:Int->aa->Prop}(h:bo F H d s)(a:K s.ops H):Ka.sp (aE d) H K:=by
 obtain⟨x,cin,kp,g,_⟩:=h;refine Ka.of ?_;unfold Ka.vc;exact g.head.ld (c:=ab .i64) (i:=4) rfl a
theorem IY {F:Nat->Prop}{d:Nat}{s:Dk}{H:aa}{K:Bool->aa->Prop}(h:bo F H d s)(a:K s.down H):Ju.sp (aE d) H K:=by
 obtain⟨x,cin,kp,g,_⟩:=h;refine Ju.of ?_;unfold Ju.vc;exact g.head.ld (c:=ay) (i:=9) rfl a
theorem Gt {q:Int}{H:aa}{K:Option Addr->aa->Prop}(o:q<=9223372036854775807)(a:∀F d H',bo F H' d (ry q)->Mod (λ_=>False) H H'->(∀b,F b->H.size<=b)->K (aE d) H'):HV.sp q H K:=by
 refine HV.of ?_;unfold HV.vc;refine rR (d:=.string) λH1 c m1 l=>?_;refine av λm s2 r2 e2=>?_;refine a (λb=>b=H1.size\/b=H.size) _ m ⟨⟨H.size,#[],0,[]⟩,0,0,⟨?_,?_,?_,?_⟩,?_⟩ (l.trans e2) ?_
 ·have:((if (1048576:Int)<(if (0:Int)>q then (0:Int) else q) then (1048576:Int) else (if (0:Int)>q then (0:Int) else q)))=((ry q).quota:Int):=by
   unfold ry;simp only;split<;>split<;>omega
  rw[this] at r2;exact r2
 ·intro i k h;cases h
 ·exact⟨m1.keep (e2.at m1.obj id |>.trans m1.obj.symm),rfl,rfl,by intro i f g h;simp[ry] at h,by rintro k v ⟨e,he,_⟩;simp at he,by intro i j g g' h;simp at h⟩
 ·exact⟨by simp[ry],by simp[ry,Dk.used],by simp[ry],by simp[ry];omega,by simp[ry],by simp[ry],by intro i k h;cases h⟩
 ·intro b;constructor
  ·rintro(e|e)
   ·exact .inl e
   ·exact .inr (.inl e)
  ·rintro(e|e|⟨g,n,_⟩)
   ·exact .inl e
   ·exact .inr e
   ·simp at n
 ·rintro b (e|e)<;>omega
theorem dj.dq {x:DG}{cin kp a c:Int}{H H':aa}{d:Nat}{s s':Dk}(h:dj x cin kp H d s)(g:aj H' d xB (fm x.m s'.used s'.most s'.quota s'.ops s'.next s'.crash.isSome a c s'.down))
  (hm:Mod (λb=>b=d) H H') (i:s'.files=s.files) (j:ku s' a c) (f:s'.WF):dj x a c H' d s':=
 ⟨g,j,by rw[i];exact h.files.keep λb k hl=>hm.same b hl λe=>dj.lV h.head h.files (e▸k),f⟩
theorem Dk.WF.change {s:Dk}(h:s.WF):s.change.1.WF:=by
 unfold Dk.change;split
 ·rename_i a;exact⟨h.nodup,h.used,h.most,h.quota,h.files,by intro hd;have:=h.down hd;rw[a] at this;simp at this,by intro i k e;rw[a] at e;cases e⟩
 ·rename_i i k a;have hi:=h.cin i k a;split
  ·exact⟨h.nodup,h.used,h.most,h.quota,h.files,λ_=>by simp[a],h.cin⟩
  ·refine⟨h.nodup,h.used,h.most,h.quota,h.files,λ_=>rfl,λb c e=>?_⟩;simp only[Pj,Pp] at e;obtain⟨rfl,rfl⟩:=e;unfold fC;rw[wrap64 (by omega) (by omega)];omega
theorem Dk.bm (s:Dk):s.change.1.files=s.files:=by
 unfold Dk.change;split
 ·rfl
 ·split<;>rfl
theorem Dk.mn (s:Dk):s.change.1.most=s.most/\s.change.1.quota=s.quota/\s.change.1.next=s.next/\s.change.1.used=s.used:=by
 unfold Dk.change;split
 ·exact⟨rfl,rfl,rfl,rfl⟩
 ·split<;>exact⟨rfl,rfl,rfl,rfl⟩
theorem nf {x:DG}{cin kp:Int}{d:Nat}{s:Dk}{H:aa}{K:Int->aa->Prop}(h:dj x cin kp H d s)
  (u:∀a H',dj x a kp H' d s.change.1->Mod (λb=>b=d) H H'->H'.size=H.size->K s.change.2 H'):DF.sp (aE d) H K:=by
 refine DF.of ?_;unfold DF.vc;simp only[al,add_add,Nat.reduceAdd];have n:=h.wf.change;have o:=s.bm;have f:∀(a:Int) (H':aa),aj H' d xB (fm x.m s.change.1.used s.change.1.most s.change.1.quota s.change.1.ops s.change.1.next s.change.1.crash.isSome a kp s.change.1.down)->ku s.change.1 a kp->Mod (λb=>b=d) H H'->H'.size=H.size->K s.change.2 H':=
  λa H' v g hm hs=>u a H' (h.dq v hm o g n) hm hs
 refine h.head.ld (c:=ay) (i:=6) (x:=s.crash.isSome) rfl ?_;have l:=h.head;have m:=h.crash;cases g:s.crash with
 |none=>
   refine aC rfl ?_;refine l.ld (c:=ab .i64) (i:=4) (x:=s.ops) rfl ?_;refine l.st (i:=4) (by decide:4<10) (by rfl) λH' r' p s'=>?_;have e:s.change=({s with ops:=fC (s.ops+1)},0):=by unfold Dk.change;rw[g]
   rw[e] at f;exact f cin H' r' (by intro i k q;rw[show ({s with ops:=fC (s.ops+1)}:Dk).crash=s.crash from rfl,g] at q;cases q) p s'
 |some w=>
   obtain⟨i,k⟩:=w;obtain⟨rfl,rfl⟩:=m i k g;refine aP rfl ?_;refine l.ld (c:=ab .i64) (i:=7) (x:=cin) rfl ?_;refine ag (λr=>?_) (λr=>?_)
   ·have j:cin=0:=by simpa using r
    have e:s.change=({s with down:=true},4):=by unfold Dk.change;rw[g];simp[j]
    rw[e] at f;refine l.st (i:=9) (by decide:9<10) (by rfl) λH' r' p s'=>?_;exact f cin H' r' (by intro i k q;exact m i k q) p s'
   ·have j:cin≠0:=by simpa using r
    have e:s.change=({s with crash:=some (fC (cin - 1),kp),ops:=fC (s.ops+1)},0):=by unfold Dk.change;rw[g];simp[j]
    rw[e] at f;refine l.ld (c:=ab .i64) (i:=7) (x:=cin) rfl ?_;refine l.st (i:=7) (by decide:7<10) (by rfl) λH1 t m1 s1=>?_;refine t.ld (c:=ab .i64) (i:=4) (x:=s.ops) rfl ?_;refine t.st (i:=4) (by decide:4<10) (by rfl) λy r2 m2 s2=>?_;refine f (fC (cin - 1)) y ?_ (by intro i k q;simp only[Pj,Pp] at q;exact q) (m1.trans m2) (by omega);rw[g] at r2;exact r2
theorem lO:FC Oj yX dy .string:=sf (by kernel_rfl) (by kernel_rfl)
theorem qe {x:DG}{fs:List Fl}{s:Dk}{H:aa}{n:ByteArray}{K:(Option Addr×Bool)->Prop}(h:aX H x fs)(a:s.files=fs)(hw:s.WF)
  (l:∀i f g,s.idx n=some i->fs[i]?=some f->f.name=n->x.gs[i]?=some g->cD H g f->K (some ⟨g.p,0,none⟩,true)) (m:s.idx n=none->K (none,false)):
  DK (aR [aw,ay]) Oj (Instr.lookup yX (.map (some x.m)) (.string n) true) H K:=by
 obtain⟨w,inf,hu,hd,hi,o⟩:=lO;refine sW hu hd hi o h.map (k:=.string n) trivial ?_ ?_
 ·rintro v p;obtain⟨i,f,g,h1,d,q,r⟩:=h.ent' _ _ p;have e:n=f.name:=by cases q;rfl
  have b:s.idx n=some i:=by rw[e];exact Dk.idx_eq hw (by rw[a];exact h1)
  exact⟨(some ⟨g.p,0,none⟩,true),by rw[r];rfl,l i f g b h1 e.symm d (h.ent i f g h1 d).2⟩
 ·intro c;refine⟨(none,false),rfl,m ?_⟩;cases t:s.idx n with
  |none=>rfl
  |some i=>
    obtain⟨f,j,u⟩:=Dk.cp t;rw[a] at j;obtain⟨g,_,he,_⟩:=h.BT j;rw[u] at he;exact absurd he (c _)
theorem oo {x:DG}{cin kp:Int}{d:Nat}{s:Dk}{H:aa}{n:ByteArray}{K:(Option Addr×Int)->aa->Prop}(h:dj x cin kp H d s)
  (a:s.down=true->K (none,4) H) (b:s.down=false->s.idx n=none->K (none,11) H)
  (e:∀i f g,s.down=false->s.idx n=some i->s.files[i]?=some f->f.name=n->x.gs[i]?=some g->cD H g f->K (aE g.p,0) H):DL.sp (aE d) n H K:=by
 refine DL.of ?_;unfold DL.vc;refine lR h.head (down:=s.down) rfl ?_;cases hd:s.down with
 |true=>exact a hd
 |false=>
   refine aC rfl ?_;refine h.head.ld (c:=bU) (i:=0) (x:=some x.m) rfl ?_;refine qe h.files rfl h.wf (λi f g h1 j k l m=>?_) (λh1=>?_)
   ·exact e i f g hd h1 j k l m
   ·exact b hd h1
theorem tN {F:Nat->Prop}{d:Nat}{s:Dk}{H:aa}{n:ByteArray}{K:(Int×Int)->aa->Prop}(h:bo F H d s)(a:K ((s.len n).1,(s.len n).2) H):DT.sp (aE d) n H K:=by
 obtain⟨x,cin,kp,g,_⟩:=h;refine DT.of ?_;unfold DT.vc;refine oo g (λhd=>?_) (λhd j=>?_) (λi f k hd hi l m o b=>?_)
 ·have e:s.len n=(0,4):=by unfold Dk.len Dk.open;rw[hd];rfl
  rw[e] at a;exact a
 ·have e:s.len n=(0,11):=by unfold Dk.len Dk.open;rw[hd,j];rfl
  rw[e] at a;exact a
 ·have e:s.len n=(f.aq.length,0):=by unfold Dk.len Dk.open;rw[hd,hi];simp[Dk.dw l]
  rw[e] at a;refine aC rfl ?_;refine b.row.ld (c:=ak) (i:=0) (x:=k.now) rfl ?_;have:=b.now.n (by decide);rw[this];exact a
end Go.Proofs.YtmkbhnholcaghaaGreatDoor
