/-
 The disk: what it tells of itself; a change; files looked up and made.
-/
import Derived.Test.YtkehfflpbpdokaaGreatDoorDka
open Go.Proofs.Tryz renaming prog->Qf
open Option.some renaming injEq->Rv
open Prod.mk renaming injEq->RO
namespace Go.Proofs.YtkehfflpbpdokaaGreatDoor
open Go.MapKept
abbrev av (d:Nat):Option Addr:=some ⟨d,0,none⟩
theorem FJ {q:Int}{H:aa}{K:Option Addr->aa->Prop}(o:q<=9223372036854775807)(a:∀F d H',cC F H' d (AQ q)->Mod (λ_=>False) H H'->(∀b,F b->H.size<=b)->K (av d) H'):Ko.sp q H K:=by
 refine Ko.of ?_;unfold Ko.vc;refine tV (d:=.string) λH1 c m1 l=>?_;refine aj λm s2 r2 e2=>?_;refine a (λb=>b=H1.size\/b=H.size) _ m ⟨⟨H.size,#[],0,[]⟩,0,0,⟨?_,?_,?_,?_⟩,?_⟩ (l.trans e2) ?_
 ·have:((if (1048576:Int)<(if (0:Int)>q then (0:Int) else q) then (1048576:Int) else (if (0:Int)>q then (0:Int) else q)))=((AQ q).quota:Int):=by
   unfold AQ;simp only;split<;>split<;>omega
  rw[this] at r2;exact r2
 ·intro i k h;cases h
 ·exact⟨m1.aE (e2.at m1.obj id |>.trans m1.obj.symm),rfl,rfl,by intro i f g h;simp[AQ] at h,by rintro k v ⟨e,he,_⟩;simp at he,by intro i j g g' h;simp at h⟩
 ·exact⟨by simp[AQ],by simp[AQ,Dk.used],by simp[AQ],by simp[AQ];omega,by simp[AQ],by simp[AQ],by intro i k h;cases h⟩
 ·intro b;constructor
  ·rintro(e|e)
   ·exact .inl e
   ·exact .inr (.inl e)
  ·rintro(e|e|⟨g,n,_⟩)
   ·exact .inl e
   ·exact .inr e
   ·simp at n
 ·rintro b (e|e)<;>omega
theorem gL.fP {x:DG}{cin kp a f:Int}{H H':aa}{d:Nat}{s c:Dk}(h:gL x cin kp H d s)(hr:ab H' d Ms (tC x.m c.used c.most c.quota c.ops c.next c.crash.isSome a f c.down))
  (hm:Mod (λb=>b=d) H H') (i:c.files=s.files) (j:yo c a f) (g:c.WF):gL x a f H' d c:=
 ⟨hr,j,by rw[i];exact h.files.aE λb k l=>hm.same b l λe=>gL.uL h.head h.files (e▸k),g⟩
theorem Dk.WF.change {s:Dk}(h:s.WF):s.change.1.WF:=by
 unfold Dk.change;split
 ·rename_i a;exact⟨h.nodup,h.used,h.most,h.quota,h.files,by intro hd;have:=h.down hd;rw[a] at this;simp at this,by intro i k e;rw[a] at e;cases e⟩
 ·rename_i i k a;have hi:=h.cin i k a;split
  ·exact⟨h.nodup,h.used,h.most,h.quota,h.files,λ_=>by simp[a],h.cin⟩
  ·refine⟨h.nodup,h.used,h.most,h.quota,h.files,λ_=>rfl,λb c e=>?_⟩;simp only[Rv,RO] at e;obtain⟨rfl,rfl⟩:=e;unfold gQ;rw[wrap64 (by omega) (by omega)];omega
theorem Dk.fC (s:Dk):s.change.1.files=s.files:=by
 unfold Dk.change;split
 ·rfl
 ·split<;>rfl
theorem Dk.yM (s:Dk):s.change.1.most=s.most/\s.change.1.quota=s.quota/\s.change.1.next=s.next/\s.change.1.used=s.used:=by
 unfold Dk.change;split
 ·exact⟨rfl,rfl,rfl,rfl⟩
 ·split<;>exact⟨rfl,rfl,rfl,rfl⟩
theorem ql {x:DG}{cin kp:Int}{d:Nat}{s:Dk}{H:aa}{K:Int->aa->Prop}(h:gL x cin kp H d s)
  (u:∀a H',gL x a kp H' d s.change.1->Mod (λb=>b=d) H H'->H'.size=H.size->K s.change.2 H'):FT.sp (av d) H K:=by
 refine FT.of ?_;unfold FT.vc;simp only[aw,add_add,Nat.reduceAdd];have n:=h.wf.change;have o:=s.fC;have f:∀(a:Int) (H':aa),ab H' d Ms (tC x.m s.change.1.used s.change.1.most s.change.1.quota s.change.1.ops s.change.1.next s.change.1.crash.isSome a kp s.change.1.down)->yo s.change.1 a kp->Mod (λb=>b=d) H H'->H'.size=H.size->K s.change.2 H':=
  λa H' hr g hm hs=>u a H' (h.fP hr hm o g n) hm hs
 refine h.head.ld (c:=aC) (i:=6) (x:=s.crash.isSome) rfl ?_;have l:=h.head;have m:=h.crash;cases g:s.crash with
 |none=>
   refine az rfl ?_;refine l.ld (c:=ai .i64) (i:=4) (x:=s.ops) rfl ?_;refine l.st (i:=4) (by decide:4<10) (by rfl) λH' r' p r=>?_;have e:s.change=({s with ops:=gQ (s.ops+1)},0):=by unfold Dk.change;rw[g]
   rw[e] at f;exact f cin H' r' (by intro i k q;rw[show ({s with ops:=gQ (s.ops+1)}:Dk).crash=s.crash from rfl,g] at q;cases q) p r
 |some v=>
   obtain⟨i,k⟩:=v;obtain⟨rfl,rfl⟩:=m i k g;refine aT rfl ?_;refine l.ld (c:=ai .i64) (i:=7) (x:=cin) rfl ?_;refine ao (λhz=>?_) (λhz=>?_)
   ·have j:cin=0:=by simpa using hz
    have e:s.change=({s with down:=true},4):=by unfold Dk.change;rw[g];simp[j]
    rw[e] at f;refine l.st (i:=9) (by decide:9<10) (by rfl) λH' r' p r=>?_;exact f cin H' r' (by intro i k q;exact m i k q) p r
   ·have j:cin≠0:=by simpa using hz
    have e:s.change=({s with crash:=some (gQ (cin - 1),kp),ops:=gQ (s.ops+1)},0):=by unfold Dk.change;rw[g];simp[j]
    rw[e] at f;refine l.ld (c:=ai .i64) (i:=7) (x:=cin) rfl ?_;refine l.st (i:=7) (by decide:7<10) (by rfl) λH1 t m1 s1=>?_;refine t.ld (c:=ai .i64) (i:=4) (x:=s.ops) rfl ?_;refine t.st (i:=4) (by decide:4<10) (by rfl) λw r2 m2 s2=>?_;refine f (gQ (cin - 1)) w ?_ (by intro i k q;simp only[Rv,RO] at q;exact q) (m1.trans m2) (by omega);rw[g] at r2;exact r2
theorem tZ:GV Qf LK Ox .string:=uS (by kernel_rfl) (by kernel_rfl)
theorem qd {x:DG}{fs:List Fl}{s:Dk}{H:aa}{n:ByteArray}{K:(Option Addr×Bool)->Prop}(h:bu H x fs)(a:s.files=fs)(hw:s.WF)
  (l:∀i f g,s.idx n=some i->fs[i]?=some f->f.name=n->x.gs[i]?=some g->dU H g f->K (some ⟨g.p,0,none⟩,true)) (m:s.idx n=none->K (none,false)):
  EW (bf [aq,aC]) Qf (Instr.lookup LK (.map (some x.m)) (.string n) true) H K:=by
 obtain⟨u,inf,hu,hd,hi,hz⟩:=tZ;refine sF hu hd hi hz h.map (k:=.string n) trivial ?_ ?_
 ·rintro v o;obtain⟨i,f,g,h1,d,p,q⟩:=h.ent' _ _ o;have e:n=f.name:=by cases p;rfl
  have b:s.idx n=some i:=by rw[e];exact Dk.idx_eq hw (by rw[a];exact h1)
  exact⟨(some ⟨g.p,0,none⟩,true),by rw[q];rfl,l i f g b h1 e.symm d (h.ent i f g h1 d).2⟩
 ·intro c;refine⟨(none,false),rfl,m ?_⟩;cases r:s.idx n with
  |none=>rfl
  |some i=>
    obtain⟨f,j,t⟩:=Dk.mP r;rw[a] at j;obtain⟨g,_,he,_⟩:=h.O8 j;rw[t] at he;exact absurd he (c _)
theorem sj {x:DG}{cin kp:Int}{d:Nat}{s:Dk}{H:aa}{n:ByteArray}{K:(Option Addr×Int)->aa->Prop}(h:gL x cin kp H d s)
  (a:s.down=true->K (none,4) H) (b:s.down=false->s.idx n=none->K (none,11) H)
  (e:∀i f g,s.down=false->s.idx n=some i->s.files[i]?=some f->f.name=n->x.gs[i]?=some g->dU H g f->K (av g.p,0) H):G0.sp (av d) n H K:=by
 refine G0.of ?_;unfold G0.vc;refine tU h.head (down:=s.down) rfl ?_;cases hd:s.down with
 |true=>exact a hd
 |false=>
   refine az rfl ?_;refine h.head.ld (c:=dB) (i:=0) (x:=some x.m) rfl ?_;refine qd h.files rfl h.wf (λi f g h1 j k l m=>?_) (λh1=>?_)
   ·exact e i f g hd h1 j k l m
   ·exact b hd h1
theorem Br {F:Nat->Prop}{d:Nat}{s:Dk}{H:aa}{n:ByteArray}{K:(Int×Int)->aa->Prop}(h:cC F H d s)(a:K ((s.len n).1,(s.len n).2) H):IB.sp (av d) n H K:=by
 obtain⟨x,cin,kp,g,_⟩:=h;refine IB.of ?_;unfold IB.vc;refine sj g (λhd=>?_) (λhd j=>?_) (λi f k hd hi l m o b=>?_)
 ·have e:s.len n=(0,4):=by unfold Dk.len Dk.open;rw[hd];rfl
  rw[e] at a;exact a
 ·have e:s.len n=(0,11):=by unfold Dk.len Dk.open;rw[hd,j];rfl
  rw[e] at a;exact a
 ·have e:s.len n=(f.aG.length,0):=by unfold Dk.len Dk.open;rw[hd,hi];simp[Dk.iX l]
  rw[e] at a;refine az rfl ?_;refine b.row.ld (c:=au) (i:=0) (x:=k.now) rfl ?_;have:=b.now.n (by decide);rw[this];exact a
end Go.Proofs.YtkehfflpbpdokaaGreatDoor
