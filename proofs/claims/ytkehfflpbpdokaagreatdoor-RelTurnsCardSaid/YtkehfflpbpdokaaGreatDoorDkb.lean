/-
 The disk: what it tells of itself; a change; files looked up and made.
-/
import Derived.Test.YtkehfflpbpdokaaGreatDoorDka
open Go.Proofs.Tryz renaming prog->Kf
open Option.some renaming injEq->Lr
open Prod.mk renaming injEq->LK
namespace Go.Proofs.YtkehfflpbpdokaaGreatDoor
open Go.MapKept
abbrev aD (d:Nat):Option Addr:=some ⟨d,0,none⟩
theorem BS {q:Int}{H:aa}{K:Option Addr->aa->Prop}(hq:q<=9223372036854775807)(hK:∀F d H',bN F H' d (uM q)->Mod (λ_=>False) H H'->(∀b,F b->H.size<=b)->K (aD d) H'):Ey.sp q H K:=by
 refine Ey.of ?_
 unfold Ey.vc
 refine pV (d:=.string) λH1 hs1 m1 e1=>?_
 refine ar λH2 s2 r2 e2=>?_
 refine hK (λb=>b=H1.size\/b=H.size) _ H2 ⟨⟨H.size,#[],0,[]⟩,0,0,⟨?_,?_,?_,?_⟩,?_⟩ (e1.trans e2) ?_
 ·have:((if (1048576:Int)<(if (0:Int)>q then (0:Int) else q) then (1048576:Int) else (if (0:Int)>q then (0:Int) else q)))=((uM q).quota:Int):=by
   unfold uM;simp only;split<;>split<;>omega
  rw[this] at r2
  exact r2
 ·intro i k h;cases h
 ·exact⟨m1.aA (e2.at m1.obj id |>.trans m1.obj.symm),rfl,rfl,by intro i f g h;simp[uM] at h,by rintro k v ⟨e,he,_⟩;simp at he,by intro i j g g' h;simp at h⟩
 ·exact⟨by simp[uM],by simp[uM,Dk.used],by simp[uM],by simp[uM];omega,by simp[uM],by simp[uM],by intro i k h;cases h⟩
 ·intro b
  constructor
  ·rintro(e|e)
   ·exact .inl e
   ·exact .inr (.inl e)
  ·rintro(e|e|⟨g,hg,_⟩)
   ·exact .inl e
   ·exact .inr e
   ·simp at hg
 ·rintro b (e|e)<;>omega
theorem eZ.dB {x:DG}{cin kp cin' kp':Int}{H H':aa}{d:Nat}{s s':Dk}(h:eZ x cin kp H d s)(hr:ag H' d Hg (qN x.m s'.used s'.most s'.quota s'.ops s'.next s'.crash.isSome cin' kp' s'.down))
  (hm:Mod (λb=>b=d) H H') (hf:s'.files=s.files) (hc:tj s' cin' kp') (hwf:s'.WF):eZ x cin' kp' H' d s':=
 ⟨hr,hc,by rw[hf];exact h.files.aA λb hb hl=>hm.same b hl λe=>eZ.pH h.head h.files (e▸hb),hwf⟩
theorem Dk.WF.change {s:Dk}(h:s.WF):s.change.1.WF:=by
 unfold Dk.change
 split
 ·rename_i hc
  exact⟨h.nodup,h.used,h.most,h.quota,h.files,by intro hd;have:=h.down hd;rw[hc] at this;simp at this,by intro i k e;rw[hc] at e;cases e⟩
 ·rename_i i k hc
  have hi:=h.cin i k hc
  split
  ·exact⟨h.nodup,h.used,h.most,h.quota,h.files,λ_=>by simp[hc],h.cin⟩
  ·refine⟨h.nodup,h.used,h.most,h.quota,h.files,λ_=>rfl,λi' k' e=>?_⟩
   simp only[Lr,LK] at e
   obtain⟨rfl,rfl⟩:=e
   unfold ff
   rw[wrap64 (by omega) (by omega)];omega
theorem Dk.dD (s:Dk):s.change.1.files=s.files:=by
 unfold Dk.change
 split
 ·rfl
 ·split<;>rfl
theorem Dk.u7 (s:Dk):s.change.1.most=s.most/\s.change.1.quota=s.quota/\s.change.1.next=s.next/\s.change.1.used=s.used:=by
 unfold Dk.change
 split
 ·exact⟨rfl,rfl,rfl,rfl⟩
 ·split<;>exact⟨rfl,rfl,rfl,rfl⟩
theorem mR {x:DG}{cin kp:Int}{d:Nat}{s:Dk}{H:aa}{K:Int->aa->Prop}(h:eZ x cin kp H d s)
  (hK:∀cin' H',eZ x cin' kp H' d s.change.1->Mod (λb=>b=d) H H'->H'.size=H.size->K s.change.2 H'):CU.sp (aD d) H K:=by
 refine CU.of ?_
 unfold CU.vc
 simp only[aq,add_add,Nat.reduceAdd]
 have hwf:=h.wf.change
 have hfi:=s.dD
 have hup:∀(cin':Int) (H':aa),ag H' d Hg (qN x.m s.change.1.used s.change.1.most s.change.1.quota s.change.1.ops s.change.1.next s.change.1.crash.isSome cin' kp s.change.1.down)->tj s.change.1 cin' kp->Mod (λb=>b=d) H H'->H'.size=H.size->K s.change.2 H':=
  λcin' H' hr hc hm hs=>hK cin' H' (h.dB hr hm hfi hc hwf) hm hs
 refine h.head.ld (c:=aw) (i:=6) (x:=s.crash.isSome) rfl ?_
 have hh:=h.head
 have hcr:=h.crash
 cases hc:s.crash with
 |none=>
   refine ax rfl ?_
   refine hh.ld (c:=af .i64) (i:=4) (x:=s.ops) rfl ?_
   refine hh.st (i:=4) (by decide:4<10) (by rfl) λH' r' m' s'=>?_
   have e:s.change=({s with ops:=ff (s.ops+1)},0):=by unfold Dk.change;rw[hc]
   rw[e] at hup
   exact hup cin H' r' (by intro i k q;rw[show ({s with ops:=ff (s.ops+1)}:Dk).crash=s.crash from rfl,hc] at q;cases q) m' s'
 |some ik=>
   obtain⟨i,k⟩:=ik
   obtain⟨rfl,rfl⟩:=hcr i k hc
   refine aT rfl ?_
   refine hh.ld (c:=af .i64) (i:=7) (x:=cin) rfl ?_
   refine ak (λhz=>?_) (λhz=>?_)
   ·have hz':cin=0:=by simpa using hz
    have e:s.change=({s with down:=true},4):=by unfold Dk.change;rw[hc];simp[hz']
    rw[e] at hup
    refine hh.st (i:=9) (by decide:9<10) (by rfl) λH' r' m' s'=>?_
    exact hup cin H' r' (by intro i k q;exact hcr i k q) m' s'
   ·have hz':cin≠0:=by simpa using hz
    have e:s.change=({s with crash:=some (ff (cin - 1),kp),ops:=ff (s.ops+1)},0):=by unfold Dk.change;rw[hc];simp[hz']
    rw[e] at hup
    refine hh.ld (c:=af .i64) (i:=7) (x:=cin) rfl ?_
    refine hh.st (i:=7) (by decide:7<10) (by rfl) λH1 r1 m1 s1=>?_
    refine r1.ld (c:=af .i64) (i:=4) (x:=s.ops) rfl ?_
    refine r1.st (i:=4) (by decide:4<10) (by rfl) λH2 r2 m2 s2=>?_
    refine hup (ff (cin - 1)) H2 ?_ (by intro i k q;simp only[Lr,LK] at q;exact q) (m1.trans m2) (by omega)
    rw[hc] at r2
    exact r2
theorem oO:AV Kf Fk IG .string:=qh (by kernel_rfl) (by kernel_rfl)
theorem nc {x:DG}{fs:List Fl}{s:Dk}{H:aa}{n:ByteArray}{K:(Option Addr×Bool)->Prop}(h:bg H x fs)(hfs:s.files=fs)(hw:s.WF)
  (hK:∀i f g,s.idx n=some i->fs[i]?=some f->f.name=n->x.gs[i]?=some g->db H g f->K (some ⟨g.p,0,none⟩,true)) (hN:s.idx n=none->K (none,false)):
  AD (bj [au,aw]) Kf (Instr.lookup Fk (.map (some x.m)) (.string n) true) H K:=by
 obtain⟨et,inf,hu,hd,hi,hz⟩:=oO
 refine oN hu hd hi hz h.map (k:=.string n) trivial ?_ ?_
 ·rintro v hv
  obtain⟨i,f,g,h1,h2,h3,h4⟩:=h.ent' _ _ hv
  have e:n=f.name:=by cases h3;rfl
  have hix:s.idx n=some i:=by rw[e];exact Dk.idx_eq hw (by rw[hfs];exact h1)
  exact⟨(some ⟨g.p,0,none⟩,true),by rw[h4];rfl,hK i f g hix h1 e.symm h2 (h.ent i f g h1 h2).2⟩
 ·intro hno
  refine⟨(none,false),rfl,hN ?_⟩
  cases hx:s.idx n with
  |none=>rfl
  |some i=>
    obtain⟨f,hf,hn⟩:=Dk.jU hx
    rw[hfs] at hf
    obtain⟨g,_,he,_⟩:=h.Ji hf
    rw[hn] at he
    exact absurd he (hno _)
theorem oM {x:DG}{cin kp:Int}{d:Nat}{s:Dk}{H:aa}{n:ByteArray}{K:(Option Addr×Int)->aa->Prop}(h:eZ x cin kp H d s)
  (hD:s.down=true->K (none,4) H) (hN:s.down=false->s.idx n=none->K (none,11) H)
  (hK:∀i f g,s.down=false->s.idx n=some i->s.files[i]?=some f->f.name=n->x.gs[i]?=some g->db H g f->K (aD g.p,0) H):BT.sp (aD d) n H K:=by
 refine BT.of ?_
 unfold BT.vc
 refine pz h.head (down:=s.down) rfl ?_
 cases hd:s.down with
 |true=>exact hD hd
 |false=>
   refine ax rfl ?_
   refine h.head.ld (c:=cO) (i:=0) (x:=some x.m) rfl ?_
   refine nc h.files rfl h.wf (λi f g h1 h2 h3 h4 h5=>?_) (λh1=>?_)
   ·exact hK i f g hd h1 h2 h3 h4 h5
   ·exact hN hd h1
theorem wX {F:Nat->Prop}{d:Nat}{s:Dk}{H:aa}{n:ByteArray}{K:(Int×Int)->aa->Prop}(h:bN F H d s)(hK:K ((s.len n).1,(s.len n).2) H):Dj.sp (aD d) n H K:=by
 obtain⟨x,cin,kp,g,_⟩:=h
 refine Dj.of ?_
 unfold Dj.vc
 refine oM g (λhd=>?_) (λhd hN=>?_) (λi f gf hd hi hf hn hg hF=>?_)
 ·have e:s.len n=(0,4):=by unfold Dk.len Dk.open;rw[hd];rfl
  rw[e] at hK;exact hK
 ·have e:s.len n=(0,11):=by unfold Dk.len Dk.open;rw[hd,hN];rfl
  rw[e] at hK;exact hK
 ·have e:s.len n=(f.aB.length,0):=by unfold Dk.len Dk.open;rw[hd,hi];simp[Dk.gu hf]
  rw[e] at hK
  refine ax rfl ?_
  refine hF.row.ld (c:=ao) (i:=0) (x:=gf.now) rfl ?_
  have:=hF.now.n (by decide)
  rw[this];exact hK
end Go.Proofs.YtkehfflpbpdokaaGreatDoor
