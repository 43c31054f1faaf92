/-
 RunsPlays: for every input the law returns true, and its arguments read as before; the table of the page's sum is laid as the program's text lays it. No condition beside that.
-/
import Derived.Test.YtdpdmbceakdlmaaGreatDoorPkp
import Derived.Test.YtdpdmbceakdlmaaGreatDoorFxn
import Derived.Test.YtdpdmbceakdlmaaGreatDoorFxt
import Derived.Test.YtdpdmbceakdlmaaGreatDoorFxz
import Derived.Test.YtdpdmbceakdlmaaGreatDoorJ46
/-
 Runs in plain words: what a writer and a reader keep to, over any pool.
-/
namespace Go.Proofs.YtdpdmbceakdlmaaGreatDoor
def Gs (W:Nat) (k:UInt8) (b:List UInt8):Prop:=b.length≤504∧(k=1→∃L,b=cj L∧gH W L)∧(k=2→∃n:Nat,b=bJ W n)
def DB (k:UInt8) (b:List UInt8):Prop:=k=0∧b=[]
def Nil0 (s:Pl):Prop:=s.AllP DB (Dk.AllP (rT DB))
def GM (W:Nat) (n:ByteArray) (d:Dk):Prop:=d.AllP (rT (Gs W))∧d.Has n
def InW (W:Nat) (n:ByteArray) (s:Pl):Prop:=s.AllP (Gs W) (GM W n)
theorem DB.FU {W:Nat} {k:UInt8} {b:List UInt8} (h:DB k b):Gs W k b:=by
 obtain⟨rfl,rfl⟩:=h
 exact⟨by simp,fun e=>absurd e (by decide),fun e=>absurd e (by decide)⟩
theorem DD:Fits DB (Dk.AllP (rT DB)):=⟨⟨rfl,rfl⟩,fun k b h=>by rw[h.2];simp,Dk.Ax _⟩
theorem qu (W:Nat) (n:ByteArray):Fits (Gs W) (GM W n):=⟨DB.FU ⟨rfl,rfl⟩,fun k b h=>h.1,Dk.sZ _ _⟩
theorem Nil0.FU {W:Nat} {n:ByteArray} {s:Pl} (h:Nil0 s) (hn:s.d.Has n):InW W n s:=
 ⟨fun f hf=>(h.fs f hf).FU,fun f hf pg hp k b e=>DB.FU (h.bc f hf pg hp k b e),hn⟩
section
variable {W V:Nat} {n:ByteArray} {s:Pl} {w:RW} {r:RR}
theorem zu {x:Int} (h:aS x≠0):0≤x∧x≤16:=by
 unfold aS bg at h
 split at h
 ·exact absurd rfl h
 ·omega
theorem Dk.Has.same {d:Dk} (h:d.Has n):(d.create n).1=d:=by
 unfold Dk.create
 split
 ·rfl
 ·rename_i hd
  split
  ·rfl
  ·rw[if_pos (h.resolve_left hd)]
theorem InW.make {x:Int} (h:InW V n s):(aH s n x).2.1=none∧InW V n (aH s n x).1:=by
 unfold aH
 split
 ·exact⟨rfl,h⟩
 ·rw[if_pos h.bc.2.yf,h.bc.2.same]
  exact⟨rfl,h⟩
theorem Nil0.make {x:Int} (h:Nil0 s):((aH s n x).2.1=none∧Nil0 (aH s n x).1)∨∃U:Nat,x=U∧U≤16∧(aH s n x).2.1=some (rl n x)∧InW U n (aH s n x).1:=by
 have hd:Nil0 (s.aV (s.d.create n).1):=⟨h.fs,h.bc.create n⟩
 have hm:Nil0 ((s.aV (s.d.create n).1).more n 0 []).1:=hd.more DD n (.inl rfl)
 unfold aH
 split
 ·exact .inl ⟨rfl,h⟩
 rename_i hr
 have hx:=zu hr
 split
 ·exact .inl ⟨rfl,hd⟩
 rename_i hc
 split
 ·exact .inl ⟨rfl,hm⟩
 refine .inr ⟨x.toNat,by omega,by omega,rfl,?_⟩
 exact(hd.FU (W:=x.toNat) (n:=n) (Dk.Has.create (Decidable.of_not_not hc))).more (qu x.toNat n) n (.inl rfl)
structure ROK (n:ByteArray) (W:Nat) (r:RR):Prop where
 name:r.b.name=n
 width:r.b.width=W
 ok:r.Ok
 rise:gH W r.ins
theorem pC (W:Nat):gH W []:=⟨fun l h=>(by cases h),fun l h=>(by cases h),fun i h=>(by simp at h)⟩
theorem Nil0.open {x:Int} (h:Nil0 s):(rnOpen s n x).2.1=none∧Nil0 (rnOpen s n x).1:=by
 obtain⟨l1,l2⟩:=h.look DD n 0
 unfold rnOpen
 split
 ·exact⟨rfl,h⟩
 split
 ·exact⟨rfl,l1⟩
 rename_i q
 have hk:=(l2 (Decidable.of_not_not q)).1
 rw[if_pos (by rintro⟨u,_⟩;rw[hk] at u;exact absurd u (by decide))]
 exact⟨rfl,l1⟩
theorem InW.open {x:Int} (h:InW V n s) (hV:V≤16):InW V n (rnOpen s n x).1∧∀r,(rnOpen s n x).2.1=some r→ROK n V r:=by
 obtain⟨l1,l2⟩:=h.look (qu V n) n 0
 have e1:InW V n (rnOpen s n x).1:=by
  unfold rnOpen
  split
  ·exact h
  split
  ·exact l1
  split
  ·exact l1
  split
  ·exact l1
  split<;>exact l1
 refine⟨e1,fun r hr=>?_⟩
 obtain⟨o1,o2,o3,o4,o5⟩:=q8 hr
 have hx:x=V:=by
  unfold rnOpen at hr
  split at hr
  ·cases hr
  split at hr
  ·cases hr
  rename_i q
  split at hr
  ·cases hr
  rename_i q2
  obtain⟨u1,u2,u3⟩:=Decidable.of_not_not q2
  obtain⟨m,hm⟩:=(l2 (Decidable.of_not_not q)).2.2 u1
  rw[hm] at u3
  have e:(bJ (V:Int) m).getD 0 0=UInt8.ofNat V:=rfl
  rw[e,UInt8.toNat_ofNat',Nat.mod_eq_of_lt (by omega)] at u3
  exact u3.symm
 exact⟨by rw[o2],by rw[o2];exact hx,o1,by rw[o5];exact pC V⟩
theorem ROK.load (hs:InW V n s) (h:ROK n V r) (hV:V≤16) (j:Nat):InW V n (r.load s j).1∧ROK n V (r.load s j).2.1:=by
 obtain⟨a1,a2,a3,a4,a5,a6⟩:=RR.dz (s:=s) (j:=j) h.ok
 obtain⟨l1,l2⟩:=hs.look (qu V n) r.b.name ((j:Int)+1)
 have e:InW V n (r.load s j).1∧gH V (r.load s j).2.1.ins:=by
  unfold RR.load
  split
  ·exact⟨hs,h.rise⟩
  split
  ·exact⟨l1,h.rise⟩
  rename_i q
  split
  ·rename_i hf
   unfold RR.fits at hf
   simp only[Bool.and_eq_true,beq_iff_eq] at hf
   obtain⟨L,hL,hr⟩:=(l2 (Decidable.of_not_not q)).2.1 hf.1.1
   refine⟨l1,?_⟩
   show gH V (fS (di _) r.b.width)
   rw[hL,mW,h.width,(kI hV hr.len hr.fit).1]
   exact hr
  ·exact⟨l1,h.rise⟩
 exact⟨e.1,a5.trans h.name,a4.trans h.width,a1,e.2⟩
theorem ROK.next (hs:InW V n s) (h:ROK n V r) (hV:V≤16):InW V n (r.next s).1∧ROK n V (r.next s).2.1:=by
 obtain⟨l1,l2⟩:=h.load hs hV (r.at_/r.b.room)
 obtain⟨a1,a2,a3,a4,a5,a6⟩:=RR.dz (s:=s) (j:=r.at_/r.b.room) h.ok
 unfold RR.next
 split
 ·exact⟨hs,h⟩
 split
 ·exact⟨hs,h⟩
 rename_i q
 split
 ·exact⟨l1,l2⟩
 refine⟨l1,l2.name,l2.width,⟨l2.ok.room,?_,l2.ok.page,l2.ok.rows,l2.ok.cols⟩,l2.rise⟩
 show r.at_+1≤(r.load s (r.at_/r.b.room)).2.1.rows
 have:=h.ok.at_
 omega
theorem ROK.cw (hV:V≤16) (ll:List Int):∀(f i j:Nat) {s:Pl} {r:RR},InW V n s→ROK n V r→i≤j→InW V n (RR.cw ll f i j s r).1∧ROK n V (RR.cw ll f i j s r).2.1∧(RR.cw ll f i j s r).2.2.1≤j∧(RR.cw ll f i j s r).2.1.rows=r.rows∧(RR.cw ll f i j s r).2.1.b.room=r.b.room
 |0,i,j,s,r,hs,h,hij=>⟨hs,h,hij,rfl,rfl⟩
 |f+1,i,j,s,r,hs,h,hij=>by
   obtain⟨l1,l2⟩:=h.load hs hV ((i+j)/2)
   obtain⟨a1,a2,a3,a4,a5,a6⟩:=RR.dz (s:=s) (j:=(i+j)/2) h.ok
   have er:(r.load s ((i+j)/2)).2.1.b.room=r.b.room:=by unfold Rb.room;rw[a4]
   unfold RR.cw
   split
   ·split
    ·exact⟨l1,l2,hij,a2,er⟩
    ·split
     ·obtain⟨b1,b2,b3,b4,b5⟩:=ROK.cw hV ll f ((i+j)/2+1) j l1 l2 (by omega)
      exact⟨b1,b2,b3,b4.trans a2,b5.trans er⟩
     ·obtain⟨b1,b2,b3,b4,b5⟩:=ROK.cw hV ll f i ((i+j)/2) l1 l2 (by omega)
      exact⟨b1,b2,by omega,b4.trans a2,b5.trans er⟩
   ·exact⟨hs,h,hij,rfl,rfl⟩
theorem ROK.find (hs:InW V n s) (h:ROK n V r) (hV:V≤16) (ll:List Int):InW V n (r.find s ll).1∧ROK n V (r.find s ll).2.1∧(r.find s ll).2.2.1≤av (r.find s ll).2.1.rows (r.find s ll).2.1.b.room:=by
 obtain⟨b1,b2,b3,b4,b5⟩:=ROK.cw hV ll (av r.rows r.b.room) 0 (av r.rows r.b.room) hs h (Nat.zero_le _)
 refine⟨b1,b2,?_⟩
 show (RR.cw ll _ 0 _ s r).2.2.1≤av (RR.cw ll _ 0 _ s r).2.1.rows (RR.cw ll _ 0 _ s r).2.1.b.room
 rw[b4,b5];exact b3
theorem ROK.goto (hs:InW V n s) (h:ROK n V r) (hV:V≤16) (ll:List Int) {k:Nat} (hk:k≤av r.rows r.b.room):InW V n (r.goto s ll k).1∧ROK n V (r.goto s ll k).2.1:=by
 obtain⟨l1,l2⟩:=h.load hs hV k
 obtain⟨a1,a2,a3,a4,a5,a6⟩:=RR.dz (s:=s) (j:=k) h.ok
 unfold RR.goto
 split
 ·exact⟨hs,h.name,h.width,⟨h.ok.room,Nat.le_refl _,h.ok.page,h.ok.rows,h.ok.cols⟩,h.rise⟩
 rename_i hk2
 split
 ·exact⟨l1,l2⟩
 rename_i q
 obtain⟨c1,c2⟩:=a6 (Decidable.of_not_not q)
 refine⟨l1,l2.name,l2.width,⟨l2.ok.room,?_,l2.ok.page,l2.ok.rows,l2.ok.cols⟩,l2.rise⟩
 show k*r.b.room+below ll (r.load s k).2.1.ins≤(r.load s k).2.1.rows
 have h1:=fY h.ok.room (show k<av r.rows r.b.room by omega)
 have h2:=l2.ok.page k c2
 have h3:=pF ll (r.load s k).2.1.ins
 rw[c1,a2] at h2
 rw[a2]
 omega
theorem ROK.bL (hs:InW V n s) (h:ROK n V r) (hV:V≤16) (ll:List Int):InW V n (r.bL s ll).1∧ROK n V (r.bL s ll).2.1:=by
 obtain⟨f1,f2,f3⟩:=h.find hs hV ll
 unfold RR.bL
 split
 ·exact⟨hs,h⟩
 split
 ·exact⟨hs,h⟩
 split
 ·exact⟨f1,f2⟩
 ·exact f2.goto f1 hV ll f3
theorem ROK.stop (h:ROK n V r):ROK n V r.stop:=⟨h.name,h.width,⟨h.ok.room,h.ok.at_,h.ok.page,h.ok.rows,h.ok.cols⟩,h.rise⟩
theorem ROK.down (hs:InW V n s) (h:ROK n V r) (hV:V≤16) (ll:List Int):Down ll ((r.find s ll).2.1.load (r.find s ll).1 (r.find s ll).2.2.1).2.1.ins:=by
 obtain⟨f1,f2,f3⟩:=h.find hs hV ll
 exact(f2.load f1 hV _).2.rise.down ll
structure GB (W:Nat) (w:RW) (c:Nat) (L:List (List Int)):Prop where
 wait:w.wait=cj L
 n:w.n=L.length
 room:L.length<c
 rise:gH W L
 last:L≠[]→0<w.rows∧w.last=L.getD (L.length - 1) []
structure sO (n:ByteArray) (W:Nat) (w:RW) (c:Nat):Prop where
 name:w.b.name=n
 width:w.b.width=W
 lay:∃L,GB W w c L
theorem sO.new (hV:V≤16):sO n V (rl n V) (bB V):=⟨rfl,rfl,[],rfl,rfl,by have:=(bE (Nat.zero_le V) hV).2.1;simp;omega,pC V,fun e=>absurd rfl e⟩
theorem gH.snoc {L:List (List Int)} {l:List Int} (h:gH V L) (hl:l.length=V) (hf:oL l) (hu:L≠[]→bt (L.getD (L.length - 1) []) l<0):gH V (L++[l]):=by
 refine⟨fun x hx=>?_,fun x hx=>?_,fun i hi=>?_⟩
 ·rcases List.mem_append.1 hx with q|q
  ·exact h.len x q
  ·rw[List.mem_singleton.1 q];exact hl
 ·rcases List.mem_append.1 hx with q|q
  ·exact h.fit x q
  ·rw[List.mem_singleton.1 q];exact hf
 ·rw[List.length_append,List.length_singleton] at hi
  have e1:(L++[l]).getD i []=L.getD i []:=by
   rw[List.getD,List.getD,List.getElem?_append_left (by omega)]
  rw[e1]
  by_cases q:i+1<L.length
  ·have e2:(L++[l]).getD (i+1) []=L.getD (i+1) []:=by
    rw[List.getD,List.getD,List.getElem?_append_left q]
   rw[e2];exact h.up i q
  ·have q2:i+1=L.length:=by omega
   have e2:(L++[l]).getD (i+1) []=l:=by rw[q2];simp[List.getD]
   rw[e2]
   have:=hu (by intro e;rw[e] at q2;simp at q2)
   have q3:L.length - 1=i:=by omega
   rwa [q3] at this
theorem sO.out (hs:InW V n s) (h:sO n V w (bB V+1)) (hV:V≤16):InW V n (w.out s).1∧sO n V (w.out s).2.1 (bB V)∧(w.out s).2.1.rows=w.rows:=by
 obtain⟨r1,r2,r3,r4⟩:=bE (Nat.zero_le V) hV
 obtain⟨L,hL⟩:=h.lay
 unfold RW.out
 split
 ·rename_i q
  refine⟨hs,⟨h.name,h.width,L,hL.wait,hL.n,?_,hL.rise,hL.last⟩,rfl⟩
  have:=hL.n;omega
 ·obtain⟨b1,b2,b3⟩:=w.b.iT (s.more w.b.name 1 w.wait).2
  refine⟨hs.more (qu V n) _ (.inr fun hl=>⟨hl,fun _=>⟨L,hL.wait,hL.rise⟩,fun e=>absurd e (by decide)⟩),⟨b3.trans h.name,b2.trans h.width,[],rfl,rfl,by simp;omega,pC V,fun e=>absurd rfl e⟩,rfl⟩
theorem sO.add {l:List Int} (hs:InW V n s) (h:sO n V w (bB V)) (hV:V≤16) (hf:oL l):InW V n (w.add s l).1∧sO n V (w.add s l).2.1 (bB V)∧(w.add s l).2.1.rows≤w.rows+1:=by
 obtain⟨r1,r2,r3,r4⟩:=bE (Nat.zero_le V) hV
 obtain⟨L,hL⟩:=h.lay
 unfold RW.add
 split
 ·exact⟨hs,h,by simp⟩
 split
 ·exact⟨hs,h,by simp⟩
 rename_i hl
 split
 ·exact⟨hs,h,by simp⟩
 rename_i hu
 have hl':l.length=V:=by rw[h.width] at hl;omega
 have hp:∀c,L.length+1<c→sO n V (w.push l) c:=fun c hc=>by
  refine⟨h.name,h.width,L++[l],?_,?_,by simpa using hc,hL.rise.snoc hl' hf fun e=>?_,fun _=>⟨Nat.succ_pos _,?_⟩⟩
  ·show w.wait++uX l=_
   rw[hL.wait];unfold cj;simp
  ·show w.n+1=_
   rw[hL.n];simp
  ·obtain⟨u1,u2⟩:=hL.last e
   rw[←u2,←wW]
   omega
  ·show l=_
   simp[List.getD]
 have hn:=hL.n
 have hr:=hL.room
 split
 ·rename_i hc
  rw[h.width,r1] at hc
  exact⟨hs,hp _ (by omega),Nat.le_refl _⟩
 ·obtain⟨o1,o2,o3⟩:=(hp (bB V+1) (by omega)).out hs hV
  exact⟨o1,o2,by rw[o3];exact Nat.le_refl _⟩
theorem InW.head (hs:InW V n s) (h1:w.b.name=n) (h2:w.b.width=V):InW V n (w.head s).1:=by
 have p:=hs.aQ (qu V n) w.b.name 0
 unfold RW.head
 split
 ·exact p
 have g:InW V n (Pl.leave ((s.aQ w.b.name 0).1.set (s.aQ w.b.name 0).2.1 2 (bJ w.b.width w.rows)) (s.aQ w.b.name 0).2.1).1:=
  Pl.AllP.leave (p.set _ fun hl=>⟨hl,fun e=>absurd e (by decide),fun _=>⟨w.rows,by rw[h2]⟩⟩) _
 split
 ·exact g
 ·exact g.flush (qu V n) _
theorem sO.close (hs:InW V n s) (h:sO n V w (bB V)) (hV:V≤16):InW V n (w.close s).1∧sO n V (w.close s).2.1 (bB V)∧(w.close s).2.1.rows=w.rows:=by
 obtain⟨L,hL⟩:=h.lay
 obtain⟨o1,o2,o3⟩:=sO.out hs (⟨h.name,h.width,L,hL.wait,hL.n,by have:=hL.room;omega,hL.rise,hL.last⟩:sO n V w (bB V+1)) hV
 unfold RW.close
 split
 ·exact⟨hs,h,rfl⟩
 split
 ·exact⟨o1,o2,o3⟩
 have hh:=InW.head (w:=(w.out s).2.1) o1 o2.name o2.width
 obtain⟨L2,hL2⟩:=o2.lay
 unfold RW.ends
 split
 ·obtain⟨b1,b2,b3⟩:=(w.out s).2.1.b.iT ((w.out s).2.1.head (w.out s).1).2
  exact⟨hh,⟨b3.trans o2.name,b2.trans o2.width,L2,hL2.wait,hL2.n,hL2.room,hL2.rise,hL2.last⟩,o3⟩
 ·exact⟨hh,⟨o2.name,o2.width,L2,hL2.wait,hL2.n,hL2.room,hL2.rise,hL2.last⟩,o3⟩
end
theorem Bd.cw (ll:List Int):∀(k f i j:Nat) {s:Pl} {r:RR} {x y:Nat},j<i+2^k→x+k<1000000000000→Bd s x y→Bd (RR.cw ll f i j s r).1 (x+k) (y+k)
 |_,0,i,j,s,r,x,y,hij,hx,h=>h.mono (by omega) (by omega)
 |0,f+1,i,j,s,r,x,y,hij,hx,h=>by
   unfold RR.cw
   rw[if_neg (by simp at hij;omega)]
   exact h
 |k+1,f+1,i,j,s,r,x,y,hij,hx,h=>by
   have l:=h.load (r:=r) (by omega) ((i+j)/2)
   rw[Nat.pow_succ] at hij
   unfold RR.cw
   split
   ·split
    ·exact l.mono (by omega) (by omega)
    ·split
     ·exact(Bd.cw ll k f ((i+j)/2+1) j (by omega) (by omega) l).mono (by omega) (by omega)
     ·exact(Bd.cw ll k f i ((i+j)/2) (by omega) (by omega) l).mono (by omega) (by omega)
   ·exact h.mono (by omega) (by omega)
theorem Bd.find {s:Pl} {r:RR} {x y:Nat} (h:Bd s x y) (hx:x<999999999000) (ok:r.Ok) (ll:List Int):Bd (r.find s ll).1 (x+30) (y+30):=by
 refine Bd.cw ll 30 _ 0 _ ?_ (by omega) h
 have h1:=cS (n:=r.rows) ok.room
 have h2:=ok.rows
 have:(2:Nat)^30=1073741824:=rfl
 omega
theorem Bd.bL {s:Pl} {r:RR} {x y:Nat} (h:Bd s x y) (hx:x<999999999000) (ok:r.Ok) (ll:List Int):Bd (r.bL s ll).1 (x+31) (y+31):=by
 have f:=h.find hx ok ll
 unfold RR.bL
 split
 ·exact h.mono (by omega) (by omega)
 split
 ·exact h.mono (by omega) (by omega)
 split
 ·exact f.mono (by omega) (by omega)
 unfold RR.goto
 have l:=f.load (r:=(r.find s ll).2.1) (by omega) (r.find s ll).2.2.1
 split
 ·exact f.mono (by omega) (by omega)
 split<;>exact l
open Go.MapKept
abbrev FK:=Int×ByteArray×Int×Int×Int
section
variable {H A:Heap} {script:Sl} {xs:List FK} {R:Bool→Heap→Prop}
end
structure CS (S:Nat→Prop) (c c':Nat→Nat) (A B:Heap):Prop where
 size:A.size≤B.size
 keep:∀b,b<A.size→¬S (c b)→c' b=c b∧B[b]?=A[b]?
theorem CS.mod {S:Nat→Prop} {c c':Nat→Nat} {A B:Heap} (h:CS S c c' A B):Mod (fun b=>S (c b)) A B:=⟨h.size,fun b hb hn=>(h.keep b hb hn).2⟩
def Fb (p:Nat) (A:Heap) (c:Nat→Nat) (w:RW) (a:Option Addr):Prop:=∃k sw sl,a=ay k∧nb A k p w sw sl∧∀b,ez k sw sl b→c b=3
def EW (m:Nat) (A:Heap) (c:Nat→Nat) (w:RW) (a:Option Addr):Prop:=∃k sw sl,a=ay k∧oI A k m w sw sl∧∀b,ez k sw sl b→c b=4
def Fj (p:Nat) (A:Heap) (c:Nat→Nat) (r:RR) (a:Option Addr):Prop:=∃k si rs,a=ay k∧w8 A k p r si rs∧∀b,gV k si rs b→c b=5
def Fg (m:Nat) (A:Heap) (c:Nat→Nat) (r:RR) (a:Option Addr):Prop:=∃k si rs,a=ay k∧wO A k m r si rs∧∀b,gV k si rs b→c b=6
def kG {α:Type} (P:α→Option Addr→Prop):Option α→Option Addr→Prop
 |none,a=>a=none
 |some x,a=>P x a
theorem kG.map {α:Type} {P Q:α→Option Addr→Prop} {o:Option α} {a:Option Addr} (h:kG P o a) (f:∀x,P x a→Q x a):kG Q o a:=by
 cases o with
 |none=>exact h
 |some x=>exact f x h
section
variable {S:Nat→Prop} {c c':Nat→Nat} {A B:Heap} {p m:Nat} {w:RW} {r:RR} {a:Option Addr}
theorem Fb.cs (h:Fb p A c w a) (x:CS S c c' A B) (hS:¬S 3):Fb p B c' w a:=by
 obtain⟨k,sw,sl,e,h1,h2⟩:=h
 exact⟨k,sw,sl,e,h1.mod x.mod fun b hb=>by show ¬S (c b);rw[h2 b hb];exact hS,fun b hb=>by rw[(x.keep b (h1.lt b hb) (by rw[h2 b hb];exact hS)).1];exact h2 b hb⟩
theorem EW.cs (h:EW m A c w a) (x:CS S c c' A B) (hS:¬S 4):EW m B c' w a:=by
 obtain⟨k,sw,sl,e,h1,h2⟩:=h
 exact⟨k,sw,sl,e,h1.mod x.mod fun b hb=>by show ¬S (c b);rw[h2 b hb];exact hS,fun b hb=>by rw[(x.keep b (h1.lt b hb) (by rw[h2 b hb];exact hS)).1];exact h2 b hb⟩
theorem Fj.cs (h:Fj p A c r a) (x:CS S c c' A B) (hS:¬S 5):Fj p B c' r a:=by
 obtain⟨k,sw,sl,e,h1,h2⟩:=h
 exact⟨k,sw,sl,e,h1.mod x.mod fun b hb=>by show ¬S (c b);rw[h2 b hb];exact hS,fun b hb=>by rw[(x.keep b (h1.lt b hb) (by rw[h2 b hb];exact hS)).1];exact h2 b hb⟩
theorem Fg.cs (h:Fg m A c r a) (x:CS S c c' A B) (hS:¬S 6):Fg m B c' r a:=by
 obtain⟨k,sw,sl,e,h1,h2⟩:=h
 exact⟨k,sw,sl,e,h1.mod x.mod fun b hb=>by show ¬S (c b);rw[h2 b hb];exact hS,fun b hb=>by rw[(x.keep b (h1.lt b hb) (by rw[h2 b hb];exact hS)).1];exact h2 b hb⟩
end
def FI (p dp:Nat) (A:Heap) (c:Nat→Nat) (s:Pl):Prop:=∃F,aE F A p dp s∧∀b,F b→c b=1
def Gp (m dm:Nat) (A:Heap) (c:Nat→Nat) (s:Pl):Prop:=∃F,aI F A m dm s∧∀b,F b→c b=2
section
variable {S:Nat→Prop} {c c':Nat→Nat} {A B:Heap} {p m dp dm:Nat} {s:Pl}
theorem FI.cs (h:FI p dp A c s) (x:CS S c c' A B) (hS:¬S 1):FI p dp B c' s:=by
 obtain⟨F,h1,h2⟩:=h
 exact⟨F,h1.keep fun b hb hl=>(x.keep b hl (by rw[h2 b hb];exact hS)).2,fun b hb=>by rw[(x.keep b (h1.lt b hb) (by rw[h2 b hb];exact hS)).1];exact h2 b hb⟩
theorem Gp.cs (h:Gp m dm A c s) (x:CS S c c' A B) (hS:¬S 2):Gp m dm B c' s:=by
 obtain⟨F,h1,h2⟩:=h
 exact⟨F,h1.keep fun b hb hl=>(x.keep b hl (by rw[h2 b hb];exact hS)).2,fun b hb=>by rw[(x.keep b (h1.lt b hb) (by rw[h2 b hb];exact hS)).1];exact h2 b hb⟩
end
def fN (dp dm p m:Nat) (a4 a5 a6 a7:Option Addr):Array Value:=#[.pointer (ay dp),.pointer (ay dm),.pointer (ay p),.pointer (ay m),.pointer a4,.pointer a5,.pointer a6,.pointer a7]
structure D0 (H0 A:Heap) (c:Nat→Nat) (bb dp dm p m:Nat) (a4 a5 a6 a7:Option Addr):Prop where
 row:ai A bb CD (fN dp dm p m a4 a5 a6 a7)
 cb:c bb=7
 old:∀b,b<H0.size→c b=0∧A[b]?=H0[b]?
 size:H0.size≤A.size
structure gn (H0 A:Heap) (c:Nat→Nat) (bb dp dm p m:Nat) (s1 s2:Pl) (w1 w2:Option RW) (r1 r2:Option RR) (a4 a5 a6 a7:Option Addr):Prop where
 hd:D0 H0 A c bb dp dm p m a4 a5 a6 a7
 p1:FI p dp A c s1
 p2:Gp m dm A c s2
 w1:kG (Fb p A c) w1 a4
 w2:kG (EW m A c) w2 a5
 r1:kG (Fj p A c) r1 a6
 r2:kG (Fg m A c) r2 a7
section
variable {S:Nat→Prop} {H0 A B:Heap} {c c':Nat→Nat} {bb dp dm p m:Nat} {s1 s2 s1' s2':Pl} {w1 w2 w1' w2':Option RW} {r1 r2 r1' r2':Option RR} {a4 a5 a6 a7:Option Addr}
theorem D0.cs (h:D0 H0 A c bb dp dm p m a4 a5 a6 a7) (x:CS S c c' A B) (h0:¬S 0) (h7:¬S 7):D0 H0 B c' bb dp dm p m a4 a5 a6 a7:=
 ⟨h.row.mod x.mod (by show ¬S (c bb);rw[h.cb];exact h7),by rw[(x.keep bb (az h.row) (by rw[h.cb];exact h7)).1];exact h.cb,
  fun b hb=>by
   obtain⟨u,v⟩:=h.old b hb
   obtain⟨u2,v2⟩:=x.keep b (Nat.lt_of_lt_of_le hb h.size) (by rw[u];exact h0)
   exact⟨u2.trans u,v2.trans v⟩,Nat.le_trans h.size x.size⟩
theorem gn.aZ (h:gn H0 A c bb dp dm p m s1 s2 w1 w2 r1 r2 a4 a5 a6 a7) (x:CS S c c' A B) (h0:¬S 0) (h7:¬S 7)
  (n1:(¬S 1∧s1'=s1)∨FI p dp B c' s1') (n2:(¬S 2∧s2'=s2)∨Gp m dm B c' s2') (n3:(¬S 3∧w1'=w1)∨kG (Fb p B c') w1' a4) (n4:(¬S 4∧w2'=w2)∨kG (EW m B c') w2' a5)
  (n5:(¬S 5∧r1'=r1)∨kG (Fj p B c') r1' a6) (n6:(¬S 6∧r2'=r2)∨kG (Fg m B c') r2' a7):gn H0 B c' bb dp dm p m s1' s2' w1' w2' r1' r2' a4 a5 a6 a7:=by
 refine⟨h.hd.cs x h0 h7,?_,?_,?_,?_,?_,?_⟩
 ·rcases n1 with ⟨q,rfl⟩|q
  ·exact h.p1.cs x q
  ·exact q
 ·rcases n2 with ⟨q,rfl⟩|q
  ·exact h.p2.cs x q
  ·exact q
 ·rcases n3 with ⟨q,rfl⟩|q
  ·exact h.w1.map fun w u=>u.cs x q
  ·exact q
 ·rcases n4 with ⟨q,rfl⟩|q
  ·exact h.w2.map fun w u=>u.cs x q
  ·exact q
 ·rcases n5 with ⟨q,rfl⟩|q
  ·exact h.r1.map fun w u=>u.cs x q
  ·exact q
 ·rcases n6 with ⟨q,rfl⟩|q
  ·exact h.r2.map fun w u=>u.cs x q
  ·exact q
end
noncomputable def dd (c:Nat→Nat) (A:Heap) (F' O:Nat→Prop) (i j:Nat) (b:Nat):Nat:=
 open Classical in if F' b then i else if O b then j else if b<A.size then c b else 9
theorem dx {c:Nat→Nat} {A:Heap} {F' O:Nat→Prop} {i j b:Nat} (h:F' b):dd c A F' O i j b=i:=by unfold dd;rw[if_pos h]
theorem fK {c:Nat→Nat} {A:Heap} {F' O:Nat→Prop} {i j b:Nat} (h:O b) (hn:¬F' b):dd c A F' O i j b=j:=by unfold dd;rw[if_neg hn,if_pos h]
theorem eK {S:Nat→Prop} {c:Nat→Nat} {A B:Heap} {F' O G:Nat→Prop} {i j:Nat} (hm:Mod G A B) (hG:∀b,b<A.size→G b→S (c b)) (hF:∀b,F' b→b<A.size→S (c b)) (hO:∀b,O b→b<A.size→S (c b)):CS S c (dd c A F' O i j) A B:=by
 refine⟨hm.size,fun b hb hn=>⟨?_,hm.same b hb fun q=>hn (hG b hb q)⟩⟩
 unfold dd
 rw[if_neg fun q=>hn (hF b q hb),if_neg fun q=>hn (hO b q hb),if_pos hb]
theorem xy {s:Pl} {n:ByteArray} {W:Int}:((aH s n W).2.1=none→(aH s n W).2.2≠0)∧((aH s n W).2.1≠none→(aH s n W).2.2=0):=by
 unfold aH
 split
 ·exact⟨fun _=>by simp,fun q=>absurd rfl q⟩
 ·split
  ·rename_i h;exact⟨fun _=>h,fun q=>absurd rfl q⟩
  ·split
   ·rename_i h;exact⟨fun _=>h,fun q=>absurd rfl q⟩
   ·exact⟨fun q=>(by cases q),fun _=>rfl⟩
theorem xX {s:Pl} {n:ByteArray} {W:Int}:((rnOpen s n W).2.1=none→(rnOpen s n W).2.2≠0)∧((rnOpen s n W).2.1≠none→(rnOpen s n W).2.2=0):=by
 unfold rnOpen
 split
 ·exact⟨fun _=>by simp,fun q=>absurd rfl q⟩
 ·split
  ·rename_i h;exact⟨fun _=>h,fun q=>absurd rfl q⟩
  ·split
   ·exact⟨fun _=>by simp,fun q=>absurd rfl q⟩
   ·split
    ·rename_i h;exact⟨fun _=>h,fun q=>absurd rfl q⟩
    ·split
     ·exact⟨fun q=>(by cases q),fun _=>rfl⟩
     ·exact⟨fun _=>by simp,fun q=>absurd rfl q⟩
theorem wm {k b:Nat} (h:ez k gy gy b):b=k:=by
 rcases h with q|q|q
 ·exact q
 ·exact absurd q (cF b)
 ·exact absurd q (cF b)
theorem wZ {k b:Nat} (h:gV k gy [] b):b=k:=by
 rcases h with q|q|⟨x,hx,_⟩
 ·exact q
 ·exact absurd q (cF b)
 ·cases hx
section
variable {S:Nat→Prop} {H0 A B:Heap} {c c':Nat→Nat} {bb dp dm p m:Nat} {s s1 s2:Pl} {w1 w2 w1' w2':Option RW} {r1 r2 r1' r2':Option RR} {a4 a5 a6 a7 b4 b5 b6 b7:Option Addr} {x y:Nat} {K:Bool→Heap→Prop}
theorem D0.gl (h:D0 H0 A c bb dp dm p m a4 a5 a6 a7) (hg:Gl H0):Gl A:=hg.keep (h.old _ hg.lt).2
theorem gn.setRow (h:gn H0 A c bb dp dm p m s1 s2 w1 w2 r1 r2 a4 a5 a6 a7) (hr:ai B bb CD (fN dp dm p m b4 b5 b6 b7)) (hm:Mod (fun b=>b=bb) A B)
  (n3:kG (Fb p A c) w1' b4) (n4:kG (EW m A c) w2' b5) (n5:kG (Fj p A c) r1' b6) (n6:kG (Fg m A c) r2' b7):gn H0 B c bb dp dm p m s1 s2 w1' w2' r1' r2' b4 b5 b6 b7:=by
 have x:CS (fun i=>i=7) c c A B:=⟨hm.size,fun b hb hn=>⟨rfl,hm.same b hb fun q=>hn (by rw[q];exact h.hd.cb)⟩⟩
 exact⟨⟨hr,h.hd.cb,fun b hb=>by
   obtain⟨u,v⟩:=h.hd.old b hb
   exact⟨u,(x.keep b (Nat.lt_of_lt_of_le hb h.hd.size) (by rw[u];decide)).2.trans v⟩,Nat.le_trans h.hd.size x.size⟩,
  h.p1.cs x (by decide),h.p2.cs x (by decide),n3.map fun w u=>u.cs x (by decide),n4.map fun w u=>u.cs x (by decide),n5.map fun w u=>u.cs x (by decide),n6.map fun w u=>u.cs x (by decide)⟩
theorem gn.GS (h:gn H0 A c bb dp dm p m s1 s2 w1 w2 r1 r2 a4 a5 a6 a7) {P:Heap→Prop} (hP:∀D,ai D bb CD (fN dp dm p m b4 b5 a6 a7)→Mod (fun b=>b=bb) A D→P D):
  st A (Addr.add ⟨bb,0,none⟩ 4) (.pointer b4) fun H3=>st H3 (Addr.add ⟨bb,0,none⟩ 5) (.pointer b5) P:=by
 refine h.hd.row.st (i:=4) (by simp[fN]) rfl fun D r m1 z1=>?_
 refine r.st (i:=5) (by simp[fN]) rfl fun E r2 m2 z2=>?_
 exact hP E r2 (m1.trans' m2 fun b _ q=>q)
theorem gn.GV (h:gn H0 A c bb dp dm p m s1 s2 w1 w2 r1 r2 a4 a5 a6 a7) {P:Heap→Prop} (hP:∀D,ai D bb CD (fN dp dm p m a4 a5 b6 b7)→Mod (fun b=>b=bb) A D→P D):
  st A (Addr.add ⟨bb,0,none⟩ 6) (.pointer b6) fun H3=>st H3 (Addr.add ⟨bb,0,none⟩ 7) (.pointer b7) P:=by
 refine h.hd.row.st (i:=6) (by simp[fN]) rfl fun D r m1 z1=>?_
 refine r.st (i:=7) (by simp[fN]) rfl fun E r2 m2 z2=>?_
 exact hP E r2 (m1.trans' m2 fun b _ q=>q)
theorem ua {W:Int} (h:gn H0 A c bb dp dm p m s s w1 w2 r1 r2 a4 a5 a6 a7) (hg:Gl H0) (hb:Bd s x y) (hx:x<1000000) (hy:y<100000000)
  (hK0:(aH s nmF W).2.1=none→∀B c',gn H0 B c' bb dp dm p m (aH s nmF W).1 (aH s nmF W).1 w1 w2 r1 r2 a4 a5 a6 a7→K true B)
  (hK1:∀w,(aH s nmF W).2.1=some w→∀B c' b4 b5,gn H0 B c' bb dp dm p m (aH s nmF W).1 (aH s nmF W).1 (some w) (some w) r1 r2 b4 b5 a6 a7→K true B):Cw.sp (ay bb) W A K:=by
 refine Cw.of ?_
 unfold Cw.vc
 simp only[ak,ay]
 have lo:=hb.lo;have hi:=hb.hi;have lg:=hb.logs
 obtain⟨e0,e1⟩:=xy (s:=s) (n:=nmF) (W:=W)
 refine h.hd.row.ld (c:=al) (i:=2) (x:=ay p) rfl ?_
 obtain⟨F1,p1,f1⟩:=h.p1
 refine sU (n:=nmF) (h.hd.gl hg) p1 (by decide) (by omega) (by omega) lo hb.fit (fun F' B q1 S1 q2=>?_) (fun F' B k w q1 S1 q2 q3 q4 q5=>?_)
 ·have x1:CS (fun i=>i=1) c (dd c A F' (fun _=>False) 1 9) A B:=eK S1.mod (fun b _ q=>f1 b q) (fun b q hb=>(S1.own b q).elim (f1 b) (fun u=>by omega)) (fun b q=>q.elim)
  have h1:gn H0 B _ bb dp dm p m (aH s nmF W).1 s w1 w2 r1 r2 a4 a5 a6 a7:=h.aZ x1 (by decide) (by decide) (.inr ⟨F',q1,fun b hb=>dx hb⟩) (.inl ⟨by decide,rfl⟩) (.inl ⟨by decide,rfl⟩) (.inl ⟨by decide,rfl⟩) (.inl ⟨by decide,rfl⟩) (.inl ⟨by decide,rfl⟩)
  refine h1.hd.row.ld (c:=al) (i:=3) (x:=ay m) rfl ?_
  obtain⟨F2,p2,f2⟩:=h1.p2
  refine tJ (n:=nmF) p2 (by decide) (by omega) (by omega) lo hb.fit (fun F2' C u1 S2 u2=>?_) (fun F2' C k w u1 S2 u2 u3 u4 u5=>absurd u2 (by rw[q2];simp))
  have x2:CS (fun i=>i=2) (dd c A F' (fun _=>False) 1 9) (dd (dd c A F' (fun _=>False) 1 9) B F2' (fun _=>False) 2 9) B C:=eK S2.mod (fun b _ q=>f2 b q) (fun b q hb=>(S2.own b q).elim (f2 b) (fun u=>by omega)) (fun b q=>q.elim)
  have h2:gn H0 C _ bb dp dm p m (aH s nmF W).1 (aH s nmF W).1 w1 w2 r1 r2 a4 a5 a6 a7:=h1.aZ x2 (by decide) (by decide) (.inl ⟨by decide,rfl⟩) (.inr ⟨F2',u1,fun b hb=>dx hb⟩) (.inl ⟨by decide,rfl⟩) (.inl ⟨by decide,rfl⟩) (.inl ⟨by decide,rfl⟩) (.inl ⟨by decide,rfl⟩)
  have he:=e0 q2
  exact ar (by simp[he]) (aU (by simp) (hK0 q2 C _ h2))
 ·have x1:CS (fun i=>i=1) c (dd c A F' (fun b=>b=k) 1 3) A B:=eK S1.mod (fun b _ q=>f1 b q) (fun b q hb=>(S1.own b q).elim (f1 b) (fun u=>by omega)) (fun b q hb=>by omega)
  have h1:gn H0 B _ bb dp dm p m (aH s nmF W).1 s w1 w2 r1 r2 a4 a5 a6 a7:=h.aZ x1 (by decide) (by decide) (.inr ⟨F',q1,fun b hb=>dx hb⟩) (.inl ⟨by decide,rfl⟩) (.inl ⟨by decide,rfl⟩) (.inl ⟨by decide,rfl⟩) (.inl ⟨by decide,rfl⟩) (.inl ⟨by decide,rfl⟩)
  have wp:Fb p B (dd c A F' (fun b=>b=k) 1 3) w (ay k):=⟨k,gy,gy,rfl,q3,fun b hb=>by rw[wm hb];exact fK rfl q5⟩
  refine h1.hd.row.ld (c:=al) (i:=3) (x:=ay m) rfl ?_
  obtain⟨F2,p2,f2⟩:=h1.p2
  refine tJ (n:=nmF) p2 (by decide) (by omega) (by omega) lo hb.fit (fun F2' C u1 S2 u2=>absurd u2 (by rw[q2];simp)) (fun F2' C k2 w' u1 S2 u2 u3 u4 u5=>?_)
  obtain rfl:w=w':=Option.some.inj (q2.symm.trans u2)
  have x2:CS (fun i=>i=2) (dd c A F' (fun b=>b=k) 1 3) (dd (dd c A F' (fun b=>b=k) 1 3) B F2' (fun b=>b=k2) 2 4) B C:=eK S2.mod (fun b _ q=>f2 b q) (fun b q hb=>(S2.own b q).elim (f2 b) (fun u=>by omega)) (fun b q hb=>by omega)
  have h2:gn H0 C _ bb dp dm p m (aH s nmF W).1 (aH s nmF W).1 w1 w2 r1 r2 a4 a5 a6 a7:=h1.aZ x2 (by decide) (by decide) (.inl ⟨by decide,rfl⟩) (.inr ⟨F2',u1,fun b hb=>dx hb⟩) (.inl ⟨by decide,rfl⟩) (.inl ⟨by decide,rfl⟩) (.inl ⟨by decide,rfl⟩) (.inl ⟨by decide,rfl⟩)
  have wq:EW m C (dd (dd c A F' (fun b=>b=k) 1 3) B F2' (fun b=>b=k2) 2 4) w (ay k2):=⟨k2,gy,gy,rfl,u3,fun b hb=>by rw[wm hb];exact fK rfl u5⟩
  have he:=e1 (by rw[q2];simp)
  refine aU (by simp[he]) ?_
  refine h2.GS (b4:=ay k) (b5:=ay k2) fun D rD mD=>?_
  exact aU (by simp) (hK1 w q2 D _ _ _ (h2.setRow rD mD (wp.cs x2 (by decide)) wq h2.r1 h2.r2))
theorem zW {W:Int} (h:gn H0 A c bb dp dm p m s s w1 w2 r1 r2 a4 a5 a6 a7) (hg:Gl H0) (hb:Bd s x y) (hx:x<1000000) (hy:y<100000000)
  (hK0:(rnOpen s nmF W).2.1=none→∀B c',gn H0 B c' bb dp dm p m (rnOpen s nmF W).1 (rnOpen s nmF W).1 w1 w2 r1 r2 a4 a5 a6 a7→K true B)
  (hK1:∀r,(rnOpen s nmF W).2.1=some r→∀B c' b6 b7,gn H0 B c' bb dp dm p m (rnOpen s nmF W).1 (rnOpen s nmF W).1 w1 w2 (some r) (some r) a4 a5 b6 b7→K true B):EE.sp (ay bb) W A K:=by
 refine EE.of ?_
 unfold EE.vc
 simp only[ak,ay]
 have lo:=hb.lo;have hi:=hb.hi;have lg:=hb.logs
 have lk:=(hb.look (n:=nmF) (by omega) 0).logs
 obtain⟨e0,e1⟩:=xX (s:=s) (n:=nmF) (W:=W)
 refine h.hd.row.ld (c:=al) (i:=2) (x:=ay p) rfl ?_
 obtain⟨F1,p1,f1⟩:=h.p1
 refine tD (n:=nmF) (h.hd.gl hg) p1 (by decide) (by omega) (by omega) lo (fun F' B q1 S1 q2=>?_) (fun F' B k w q1 S1 q2 q3 q4 q5=>?_)
 ·have x1:CS (fun i=>i=1) c (dd c A F' (fun _=>False) 1 9) A B:=eK S1.mod (fun b _ q=>f1 b q) (fun b q hb=>(S1.own b q).elim (f1 b) (fun u=>by omega)) (fun b q=>q.elim)
  have h1:gn H0 B _ bb dp dm p m (rnOpen s nmF W).1 s w1 w2 r1 r2 a4 a5 a6 a7:=h.aZ x1 (by decide) (by decide) (.inr ⟨F',q1,fun b hb=>dx hb⟩) (.inl ⟨by decide,rfl⟩) (.inl ⟨by decide,rfl⟩) (.inl ⟨by decide,rfl⟩) (.inl ⟨by decide,rfl⟩) (.inl ⟨by decide,rfl⟩)
  refine h1.hd.row.ld (c:=al) (i:=3) (x:=ay m) rfl ?_
  obtain⟨F2,p2,f2⟩:=h1.p2
  refine uB (n:=nmF) p2 (by decide) (by omega) (by omega) lo (by omega) (fun F2' C u1 S2 u2=>?_) (fun F2' C k w u1 S2 u2 u3 u4 u5=>absurd u2 (by rw[q2];simp))
  have x2:CS (fun i=>i=2) (dd c A F' (fun _=>False) 1 9) (dd (dd c A F' (fun _=>False) 1 9) B F2' (fun _=>False) 2 9) B C:=eK S2.mod (fun b _ q=>f2 b q) (fun b q hb=>(S2.own b q).elim (f2 b) (fun u=>by omega)) (fun b q=>q.elim)
  have h2:gn H0 C _ bb dp dm p m (rnOpen s nmF W).1 (rnOpen s nmF W).1 w1 w2 r1 r2 a4 a5 a6 a7:=h1.aZ x2 (by decide) (by decide) (.inl ⟨by decide,rfl⟩) (.inr ⟨F2',u1,fun b hb=>dx hb⟩) (.inl ⟨by decide,rfl⟩) (.inl ⟨by decide,rfl⟩) (.inl ⟨by decide,rfl⟩) (.inl ⟨by decide,rfl⟩)
  have he:=e0 q2
  exact ar (by simp[he]) (aU (by simp) (hK0 q2 C _ h2))
 ·have x1:CS (fun i=>i=1) c (dd c A F' (fun b=>b=k) 1 5) A B:=eK S1.mod (fun b _ q=>f1 b q) (fun b q hb=>(S1.own b q).elim (f1 b) (fun u=>by omega)) (fun b q hb=>by omega)
  have h1:gn H0 B _ bb dp dm p m (rnOpen s nmF W).1 s w1 w2 r1 r2 a4 a5 a6 a7:=h.aZ x1 (by decide) (by decide) (.inr ⟨F',q1,fun b hb=>dx hb⟩) (.inl ⟨by decide,rfl⟩) (.inl ⟨by decide,rfl⟩) (.inl ⟨by decide,rfl⟩) (.inl ⟨by decide,rfl⟩) (.inl ⟨by decide,rfl⟩)
  have wp:Fj p B (dd c A F' (fun b=>b=k) 1 5) w (ay k):=⟨k,gy,[],rfl,q3,fun b hb=>by rw[wZ hb];exact fK rfl q5⟩
  refine h1.hd.row.ld (c:=al) (i:=3) (x:=ay m) rfl ?_
  obtain⟨F2,p2,f2⟩:=h1.p2
  refine uB (n:=nmF) p2 (by decide) (by omega) (by omega) lo (by omega) (fun F2' C u1 S2 u2=>absurd u2 (by rw[q2];simp)) (fun F2' C k2 w' u1 S2 u2 u3 u4 u5=>?_)
  obtain rfl:w=w':=Option.some.inj (q2.symm.trans u2)
  have x2:CS (fun i=>i=2) (dd c A F' (fun b=>b=k) 1 5) (dd (dd c A F' (fun b=>b=k) 1 5) B F2' (fun b=>b=k2) 2 6) B C:=eK S2.mod (fun b _ q=>f2 b q) (fun b q hb=>(S2.own b q).elim (f2 b) (fun u=>by omega)) (fun b q hb=>by omega)
  have h2:gn H0 C _ bb dp dm p m (rnOpen s nmF W).1 (rnOpen s nmF W).1 w1 w2 r1 r2 a4 a5 a6 a7:=h1.aZ x2 (by decide) (by decide) (.inl ⟨by decide,rfl⟩) (.inr ⟨F2',u1,fun b hb=>dx hb⟩) (.inl ⟨by decide,rfl⟩) (.inl ⟨by decide,rfl⟩) (.inl ⟨by decide,rfl⟩) (.inl ⟨by decide,rfl⟩)
  have wq:Fg m C (dd (dd c A F' (fun b=>b=k) 1 5) B F2' (fun b=>b=k2) 2 6) w (ay k2):=⟨k2,gy,[],rfl,u3,fun b hb=>by rw[wZ hb];exact fK rfl u5⟩
  have wp2:=wp.cs x2 (by decide)
  have he:=e1 (by rw[q2];simp)
  refine aU (by simp[he]) ?_
  refine h2.GV (b6:=ay k) (b7:=ay k2) fun D rD mD=>?_
  have h3:=h2.setRow (r1':=some w) (r2':=some w) rD mD h2.w1 h2.w2 wp2 wq
  obtain⟨k',si',rs',ek,wr,_⟩:=h3.r1
  obtain⟨k2',si2',rs2',ek2,wr2,_⟩:=h3.r2
  obtain rfl:k=k':=by cases ek;rfl
  obtain rfl:k2=k2':=by cases ek2;rfl
  refine⟨fun A=>A=D,rfl,?_⟩
  refine E8.of ?_
  unfold E8.vc
  refine ar rfl ?_
  refine c6 _ rfl ?_
  refine ai.ld (c:=aa .i64) (i:=6) (x:=(w.rows:Int)) wr.row (ba.tail (j:=0) rfl) ?_
  refine⟨rfl,?_⟩
  refine ai.dK (c:=aa .i64) (i:=5) (x:=(w.rows:Int)) (cs:=fun _=>_) (fun A e=>by rw[e];exact wr2.row) (fun A e=>bl.tail (j:=0) rfl) ?_
  exact ar (by simp) (aU (by simp) (hK1 w q2 D _ _ _ h3))
end
section
variable {H0 A:Heap} {c:Nat→Nat} {bb dp dm p m:Nat} {s1 s2:Pl} {w w1 w2:Option RW} {r1 r2:Option RR} {wr:RW} {rd:RR} {a4 a5 a6 a7:Option Addr} {x y:Nat} {l:Sl} {ll:List Int}
theorem tV {F' O F O0:Nat→Prop} {i j:Nat} {B:Heap} (hm:Mod (fun b=>F b∨O0 b) A B) (hF:∀b,F b→c b=i) (hO:∀b,O0 b→c b=j) (h1:∀b,F' b→(F b∨O0 b)∨A.size≤b) (h2:∀b,O b→(F b∨O0 b)∨A.size≤b):CS (fun k=>k=i∨k=j) c (dd c A F' O i j) A B:=by
 have hS:∀b,F b∨O0 b→c b=i∨c b=j:=fun b q=>q.elim (fun u=>.inl (hF b u)) fun u=>.inr (hO b u)
 refine eK hm (fun b _ q=>hS b q) (fun b q hb=>?_) (fun b q hb=>?_)
 ·rcases h1 b q with u|u
  ·exact hS b u
  ·omega
 ·rcases h2 b q with u|u
  ·exact hS b u
  ·omega
theorem Cf {K:Int→Heap→Prop} (h:gn H0 A c bb dp dm p m s1 s2 (some wr) w2 r1 r2 a4 a5 a6 a7) (hg:Gl H0) (hb:Bd s1 x y) (hx:x<1000000) (hy:y<100000000)
  (hl:Ints .u64 A l ll) (hlb:∀ad,l.a=some ad→c ad.block≠3) (hlen:(ll.length:Int)=wr.b.width→ll.length≤1000000) (hwl:wr.wait.length≤1000000) (hwr:wr.rows<1099511627776) (hwn:wr.n<1099511627776) (hnm:wr.b.name=nmF)
  (hK:∀B c',CS (fun i=>i=1∨i=3) c c' A B→gn H0 B c' bb dp dm p m (wr.add s1 ll).1 s2 (some (wr.add s1 ll).2.1) w2 r1 r2 a4 a5 a6 a7→K (wr.add s1 ll).2.2 B):wB.sp a4 l A K:=by
 have lo:=hb.lo;have hi:=hb.hi;have lg:=hb.logs
 obtain⟨k,sw,sl,rfl,hw,hc⟩:=h.w1
 obtain⟨F,p1,f1⟩:=h.p1
 have h0:=(h.hd.old _ hg.lt).1
 refine uF (h.hd.gl hg) (fun q=>by rw[hc _ q] at h0;exact absurd h0 (by decide)) hw p1 (fun b q u=>by have:=f1 b q;rw[hc b u] at this;exact absurd this (by decide)) hl (fun ad e q=>hlb ad e (hc _ q)) hlen hwl hwr hwn (by rw[hnm];decide) (by omega) (by omega) lo hb.fit fun F' sw' sl' B q1 q2 q3 S=>?_
 have X:=tV (F':=F') (O:=ez k sw' sl') S.mod f1 hc (fun b q=>S.own b (.inl q)) (fun b q=>S.own b (.inr q))
 exact hK B _ X (h.aZ X (by decide) (by decide) (.inr ⟨F',q1,fun b q=>dx q⟩) (.inl ⟨by decide,rfl⟩) (.inr ⟨k,sw',sl',rfl,q2,fun b q=>fK q fun u=>q3 b u q⟩) (.inl ⟨by decide,rfl⟩) (.inl ⟨by decide,rfl⟩) (.inl ⟨by decide,rfl⟩))
theorem Dh {K:Int→Heap→Prop} (h:gn H0 A c bb dp dm p m s1 s2 w1 (some wr) r1 r2 a4 a5 a6 a7) (hb:Bd s2 x y) (hx:x<1000000) (hy:y<100000000)
  (hl:Ints .u64 A l ll) (hlb:∀ad,l.a=some ad→ll≠[]→c ad.block≠4) (hlen:(ll.length:Int)=wr.b.width→ll.length≤1000000) (hwl:wr.wait.length≤1000000) (hwr:wr.rows<1099511627776) (hwn:wr.n<1099511627776) (hnm:wr.b.name=nmF)
  (hK:∀B c',CS (fun i=>i=2∨i=4) c c' A B→gn H0 B c' bb dp dm p m s1 (wr.add s2 ll).1 w1 (some (wr.add s2 ll).2.1) r1 r2 a4 a5 a6 a7→K (wr.add s2 ll).2.2 B):Ch.sp a5 l A K:=by
 have lo:=hb.lo;have hi:=hb.hi;have lg:=hb.logs
 obtain⟨k,sw,sl,rfl,hw,hc⟩:=h.w2
 obtain⟨F,p1,f1⟩:=h.p2
 refine CR hw p1 (fun b q u=>by have:=f1 b q;rw[hc b u] at this;exact absurd this (by decide)) hl (fun ad e hne q=>hlb ad e hne (hc _ q)) hlen hwl hwr hwn (by rw[hnm];decide) (by omega) (by omega) lo hb.fit fun F' sw' sl' B q1 q2 q3 S=>?_
 have X:=tV (F':=F') (O:=ez k sw' sl') S.mod f1 hc (fun b q=>S.own b (.inl q)) (fun b q=>S.own b (.inr q))
 exact hK B _ X (h.aZ X (by decide) (by decide) (.inl ⟨by decide,rfl⟩) (.inr ⟨F',q1,fun b q=>dx q⟩) (.inl ⟨by decide,rfl⟩) (.inr ⟨k,sw',sl',rfl,q2,fun b q=>fK q fun u=>q3 b u q⟩) (.inl ⟨by decide,rfl⟩) (.inl ⟨by decide,rfl⟩))
theorem xm {K:(Int×Int)→Heap→Prop} (h:gn H0 A c bb dp dm p m s1 s2 (some wr) w2 r1 r2 a4 a5 a6 a7) (hg:Gl H0) (hb:Bd s1 x y) (hx:x<1000000) (hy:y<100000000)
  (hwr:wr.rows<1099511627776) (hwd:0≤wr.b.width) (hnm:wr.b.name=nmF)
  (hK:∀B c',CS (fun i=>i=1∨i=3) c c' A B→(wr.close s1).1.fs.length≤4096→gn H0 B c' bb dp dm p m (wr.close s1).1 s2 (some (wr.close s1).2.1) w2 r1 r2 a4 a5 a6 a7→K (((wr.close s1).2.2.1:Int),(wr.close s1).2.2.2) B):Ay.sp a4 A K:=by
 have lo:=hb.lo;have hi:=hb.hi;have lg:=hb.logs
 obtain⟨k,sw,sl,rfl,hw,hc⟩:=h.w1
 obtain⟨F,p1,f1⟩:=h.p1
 have h0:=(h.hd.old _ hg.lt).1
 have ho:=hb.out (w:=wr) (by omega)
 have lo1:=ho.lo;have hi1:=ho.hi;have lg1:=ho.logs
 refine qT (h.hd.gl hg) (fun q=>by rw[hc _ q] at h0;exact absurd h0 (by decide)) hw p1 (fun b q u=>by have:=f1 b q;rw[hc b u] at this;exact absurd this (by decide)) hwr hwd (by rw[hnm];decide) (by omega) (by omega) lo hb.fit (by omega) (by omega) (fun z d=>by have:=(Bd.leave ((ho.aQ (n:=wr.b.name) (by omega) 0).set z 2 d) z).logs;omega) fun F' sw' B q1 q2 q3 S=>?_
 have X:=tV (F':=F') (O:=ez k sw' sl) S.mod f1 hc (fun b q=>S.own b (.inl q)) (fun b q=>S.own b (.inr q))
 exact hK B _ X (by have:=q1.wf.len;have:=q1.wf.most;omega) (h.aZ X (by decide) (by decide) (.inr ⟨F',q1,fun b q=>dx q⟩) (.inl ⟨by decide,rfl⟩) (.inr ⟨k,sw',sl,rfl,q2,fun b q=>fK q fun u=>q3 b u q⟩) (.inl ⟨by decide,rfl⟩) (.inl ⟨by decide,rfl⟩) (.inl ⟨by decide,rfl⟩))
theorem xv {K:(Int×Int)→Heap→Prop} (h:gn H0 A c bb dp dm p m s1 s2 w1 (some wr) r1 r2 a4 a5 a6 a7) (hb:Bd s2 x y) (hx:x<1000000) (hy:y<100000000)
  (hwr:wr.rows<1099511627776) (hwd:0≤wr.b.width) (hnm:wr.b.name=nmF)
  (hK:∀B c',CS (fun i=>i=2∨i=4) c c' A B→gn H0 B c' bb dp dm p m s1 (wr.close s2).1 w1 (some (wr.close s2).2.1) r1 r2 a4 a5 a6 a7→K (((wr.close s2).2.2.1:Int),(wr.close s2).2.2.2) B):Cs.sp a5 A K:=by
 have lo:=hb.lo;have hi:=hb.hi;have lg:=hb.logs
 obtain⟨k,sw,sl,rfl,hw,hc⟩:=h.w2
 obtain⟨F,p1,f1⟩:=h.p2
 have ho:=hb.out (w:=wr) (by omega)
 have lo1:=ho.lo;have hi1:=ho.hi;have lg1:=ho.logs
 refine xu hw p1 (fun b q u=>by have:=f1 b q;rw[hc b u] at this;exact absurd this (by decide)) hwr hwd (by rw[hnm];decide) (by omega) (by omega) lo hb.fit (by omega) (by omega) (fun z d=>by have:=(Bd.leave ((ho.aQ (n:=wr.b.name) (by omega) 0).set z 2 d) z).logs;omega) ho.fit (fun z d=>(Bd.leave ((ho.aQ (n:=wr.b.name) (by omega) 0).set z 2 d) z).fit) fun F' sw' B q1 q2 q3 S=>?_
 have X:=tV (F':=F') (O:=ez k sw' sl) S.mod f1 hc (fun b q=>S.own b (.inl q)) (fun b q=>S.own b (.inr q))
 exact hK B _ X (h.aZ X (by decide) (by decide) (.inl ⟨by decide,rfl⟩) (.inr ⟨F',q1,fun b q=>dx q⟩) (.inl ⟨by decide,rfl⟩) (.inr ⟨k,sw',sl,rfl,q2,fun b q=>fK q fun u=>q3 b u q⟩) (.inl ⟨by decide,rfl⟩) (.inl ⟨by decide,rfl⟩))
theorem zJ {K:(Sl×Bool×Int)→Heap→Prop} (h:gn H0 A c bb dp dm p m s1 s2 w1 w2 (some rd) r2 a4 a5 a6 a7) (hg:Gl H0) (hb:Bd s1 x y) (hx:x<1000000) (hy:y<100000000) (ok:rd.Ok) (hnm:rd.b.name=nmF)
  (hK:∀B c' l,CS (fun i=>i=1∨i=5) c c' A B→gn H0 B c' bb dp dm p m (rd.next s1).1 s2 w1 w2 (some (rd.next s1).2.1) r2 a4 a5 a6 a7→aN B 0 iw 1 l ((rd.next s1).2.2.1.map (Value.int .u64))→(∀b,aj l b→c' b=9)→K (l,(rd.next s1).2.2.2.1,(rd.next s1).2.2.2.2) B):xV.sp a6 A K:=by
 have lo:=hb.lo;have hi:=hb.hi;have lg:=hb.logs
 obtain⟨k,si,rs,rfl,hw,hc⟩:=h.r1
 obtain⟨F,p1,f1⟩:=h.p1
 have h0:=(h.hd.old _ hg.lt).1
 have st:cO A F (gV k si rs) k p dp si rs F A s1 rd:=⟨p1,hw,fun b q u=>by have:=f1 b q;rw[hc b u] at this;exact absurd this (by decide),.refl _ _,fun _ q=>.inl q,fun _ q=>.inl q⟩
 refine tg (h.hd.gl hg) (fun q=>by rw[f1 _ q] at h0;exact absurd h0 (by decide)) (fun q=>by rw[q,hc k (.inl rfl)] at h0;exact absurd h0 (by decide)) st ok (by rw[hnm];decide) (by omega) (by omega) lo fun F' si' rs' B l q1 q2 q3=>?_
 have X:=tV (F':=F') (O:=gV k si' rs') (q1.mod.mono fun b _ q=>q.elim .inl fun e=>.inr (.inl e)) f1 hc (fun b q=>(q1.own b q).elim (fun u=>.inl (.inl u)) .inr) (fun b q=>(q1.own2 b q).elim (fun u=>.inl (.inr u)) .inr)
 refine hK B _ l X (h.aZ X (by decide) (by decide) (.inr ⟨F',q1.ae,fun b q=>dx q⟩) (.inl ⟨by decide,rfl⟩) (.inl ⟨by decide,rfl⟩) (.inl ⟨by decide,rfl⟩) (.inr ⟨k,si',rs',rfl,q1.rd,fun b q=>fK q fun u=>q1.dis b u q⟩) (.inl ⟨by decide,rfl⟩)) q2 fun b hb=>?_
 obtain⟨u1,u2,u3⟩:=q3 b hb
 unfold dd
 rw[if_neg u2,if_neg u3,if_neg (by omega)]
theorem zQ {K:(Sl×Bool×Int)→Heap→Prop} (h:gn H0 A c bb dp dm p m s1 s2 w1 w2 r1 (some rd) a4 a5 a6 a7) (hb:Bd s2 x y) (hx:x<1000000) (hy:y<100000000) (ok:rd.Ok) (hnm:rd.b.name=nmF)
  (hK:∀B c' l,CS (fun i=>i=2∨i=6) c c' A B→gn H0 B c' bb dp dm p m s1 (rd.next s2).1 w1 w2 r1 (some (rd.next s2).2.1) a4 a5 a6 a7→Ints .u64 B l (rd.next s2).2.2.1→K (l,(rd.next s2).2.2.2.1,(rd.next s2).2.2.2.2) B):Cn.sp a7 A K:=by
 have lo:=hb.lo;have hi:=hb.hi;have lg:=hb.logs
 obtain⟨k,si,rs,rfl,hw,hc⟩:=h.r2
 obtain⟨F,p1,f1⟩:=h.p2
 have st:dr A F (gV k si rs) k m dm si rs F A s2 rd:=⟨p1,hw,fun b q u=>by have:=f1 b q;rw[hc b u] at this;exact absurd this (by decide),.refl _ _,fun _ q=>.inl q,fun _ q=>.inl q⟩
 refine Ak st ok (by rw[hnm];decide) (by omega) (by omega) lo fun F' si' rs' B l q1 q2 q3 q4=>?_
 have X:=tV (F':=F') (O:=gV k si' rs') (q1.mod.mono fun b _ q=>q.elim .inl fun e=>.inr (.inl e)) f1 hc (fun b q=>(q1.own b q).elim (fun u=>.inl (.inl u)) .inr) (fun b q=>(q1.own2 b q).elim (fun u=>.inl (.inr u)) .inr)
 exact hK B _ l X (h.aZ X (by decide) (by decide) (.inl ⟨by decide,rfl⟩) (.inr ⟨F',q1.ae,fun b q=>dx q⟩) (.inl ⟨by decide,rfl⟩) (.inl ⟨by decide,rfl⟩) (.inl ⟨by decide,rfl⟩) (.inr ⟨k,si',rs',rfl,q1.rd,fun b q=>fK q fun u=>q1.dis b u q⟩)) q2
theorem yX {V:Nat} {K:Int→Heap→Prop} (h:gn H0 A c bb dp dm p m s1 s2 w1 w2 (some rd) r2 a4 a5 a6 a7) (hg:Gl H0) (hb:Bd s1 x y) (hx:x<1000000) (hy:y<100000000) (ok:ROK nmF V rd) (hs:InW V nmF s1) (hV:V≤16)
  (hl:Ints .u64 A l ll) (hlb:∀ad,l.a=some ad→ll≠[]→c ad.block=0) (hlen:(ll.length:Int)≤rd.b.width→ll.length≤1000000)
  (hK:∀B c',CS (fun i=>i=1∨i=5) c c' A B→gn H0 B c' bb dp dm p m (rd.bL s1 ll).1 s2 w1 w2 (some (rd.bL s1 ll).2.1) r2 a4 a5 a6 a7→K (rd.bL s1 ll).2.2 B):yN.sp a6 l A K:=by
 have lo:=hb.lo;have hi:=hb.hi;have lg:=hb.logs
 obtain⟨k,si,rs,rfl,hw,hc⟩:=h.r1
 obtain⟨F,p1,f1⟩:=h.p1
 have h0:=(h.hd.old _ hg.lt).1
 have fb:=hb.find (by omega) ok.ok ll
 have fl:=fb.logs;have fh:=fb.hi
 have st:cO A F (gV k si rs) k p dp si rs F A s1 rd:=⟨p1,hw,fun b q u=>by have:=f1 b q;rw[hc b u] at this;exact absurd this (by decide),.refl _ _,fun _ q=>.inl q,fun _ q=>.inl q⟩
 refine qJ (h.hd.gl hg) (fun q=>by rw[f1 _ q] at h0;exact absurd h0 (by decide)) (fun q=>by rw[q,hc k (.inl rfl)] at h0;exact absurd h0 (by decide)) st ok.ok hl (fun ad e hne=>⟨fun q=>?_,fun q=>?_⟩) hlen (by rw[ok.name];decide) (by omega) (by omega) ⟨by omega,by omega⟩ (fun _ _ _=>ok.down hs hV ll) fun F' si' rs' B q1=>?_
 ·have:=hlb ad e hne;rw[f1 _ q] at this;exact absurd this (by decide)
 ·have:=hlb ad e hne;rw[q,hc k (.inl rfl)] at this;exact absurd this (by decide)
 have X:=tV (F':=F') (O:=gV k si' rs') (q1.mod.mono fun b _ q=>q.elim .inl fun e=>.inr (.inl e)) f1 hc (fun b q=>(q1.own b q).elim (fun u=>.inl (.inl u)) .inr) (fun b q=>(q1.own2 b q).elim (fun u=>.inl (.inr u)) .inr)
 exact hK B _ X (h.aZ X (by decide) (by decide) (.inr ⟨F',q1.ae,fun b q=>dx q⟩) (.inl ⟨by decide,rfl⟩) (.inl ⟨by decide,rfl⟩) (.inl ⟨by decide,rfl⟩) (.inr ⟨k,si',rs',rfl,q1.rd,fun b q=>fK q fun u=>q1.dis b u q⟩) (.inl ⟨by decide,rfl⟩))
theorem zE {K:Int→Heap→Prop} (h:gn H0 A c bb dp dm p m s1 s2 w1 w2 r1 (some rd) a4 a5 a6 a7) (hb:Bd s2 x y) (hx:x<1000000) (hy:y<100000000) (ok:rd.Ok) (hnm:rd.b.name=nmF)
  (hl:Ints .u64 A l ll) (hlb:∀ad,l.a=some ad→ll≠[]→c ad.block=0) (hlen:(ll.length:Int)≤rd.b.width→ll.length≤1000000)
  (hK:∀B c' q,CS (fun i=>i=2∨i=6) c c' A B→gn H0 B c' bb dp dm p m s1 (rd.bL s2 ll).1 w1 w2 r1 (some q) a4 a5 a6 a7→q.Ok→(q=(rd.bL s2 ll).2.1∨q.b=(rd.bL s2 ll).2.1.b∧q.b.ready≠0)→K (rd.bL s2 ll).2.2 B):Dl.sp a7 l A K:=by
 have lo:=hb.lo;have hi:=hb.hi;have lg:=hb.logs
 obtain⟨k,si,rs,rfl,hw,hc⟩:=h.r2
 obtain⟨F,p1,f1⟩:=h.p2
 have st:dr A F (gV k si rs) k m dm si rs F A s2 rd:=⟨p1,hw,fun b q u=>by have:=f1 b q;rw[hc b u] at this;exact absurd this (by decide),.refl _ _,fun _ q=>.inl q,fun _ q=>.inl q⟩
 refine An st ok hl (fun ad e hne=>⟨fun q=>?_,fun q=>?_⟩) hlen (by rw[hnm];decide) (by omega) (by omega) lo fun F' si' rs' B q q1 q2 q3=>?_
 ·have:=hlb ad e hne;rw[f1 _ q] at this;exact absurd this (by decide)
 ·have:=hlb ad e hne;rw[q,hc k (.inl rfl)] at this;exact absurd this (by decide)
 have X:=tV (F':=F') (O:=gV k si' rs') (q1.mod.mono fun b _ q=>q.elim .inl fun e=>.inr (.inl e)) f1 hc (fun b q=>(q1.own b q).elim (fun u=>.inl (.inl u)) .inr) (fun b q=>(q1.own2 b q).elim (fun u=>.inl (.inr u)) .inr)
 exact hK B _ q X (h.aZ X (by decide) (by decide) (.inl ⟨by decide,rfl⟩) (.inr ⟨F',q1.ae,fun b q=>dx q⟩) (.inl ⟨by decide,rfl⟩) (.inl ⟨by decide,rfl⟩) (.inl ⟨by decide,rfl⟩) (.inr ⟨k,si',rs',rfl,q1.rd,fun b q=>fK q fun u=>q1.dis b u q⟩)) q2 q3
end
theorem gw.row {H:Heap} {base:Nat} {r:Sl} {l:List Int} (h:gw H base r l):aN H base iw 1 r (l.map (Value.int .u64)):=by
 have hn:=h.len
 obtain⟨h1,h2⟩:=h.own
 refine⟨by simp[hn],.inr ?_⟩
 rcases h2 with ⟨_,h3⟩|⟨g,cap,cur,e1,hb,hg,h3,h4,h5,h6⟩
 ·simp at h3
 ·cases r with
  |mk a n c=>
    simp only[Sl.v,Value.slice.injEq] at e1
    obtain⟨ea,_,ec⟩:=e1
    simp only at hn h3 h6
    refine⟨g,cap,cur,by simp[Sl.v,ea,ec],hb,hg,by show n≤cap;omega,h4,h5,?_⟩
    have h7:=congrArg (List.take n) h6
    rw[List.take_take,List.map_append,List.take_left' (by simp[hn])] at h7
    have e8:min n ((n+1)*1)=n:=by omega
    rw[e8] at h7
    show cur.toList.take (n*1)=_
    rw[Nat.mul_one];exact h7
theorem ct {k n:Int} {X:(Bool→Heap→Prop)→Prop} {B:Bool→Heap→Prop} {H:Heap} (hk:(k==n)=false) (h:B false H):cut Bool (fun J=>br (k==n) (X J) (J false H)) B:=⟨B,ar hk h,fun _ _ u=>u⟩
theorem uz {k n:Int} {H:Heap} {b i:Nat} {t:TypeId} {cs:Array Value} {a:Option Addr} {Y:(Bool→Heap→Prop)→Prop} {B:Bool→Heap→Prop} (hr:ai H b t cs) (hi:cs[i]?=some (.pointer a)) (hk:(k==n)=true) (h:B (!a.isNone) H):cut Bool (fun J=>br (k==n) (ld al H (Addr.add ⟨b,0,none⟩ i) fun x=>J (!x.isNone) H) (Y J)) B:=
 ⟨B,aU hk (hr.ld (c:=al) (x:=a) hi h),fun _ _ u=>u⟩
def Rel (r q:RR):Prop:=q=r∨(q.b=r.b∧r.b.ready≠0∧q.Ok)
inductive Br (V:Nat):Option RR→Option RR→Prop
 |none:Br V none none
 |some {r q:RR} (h:ROK nmF V r) (k:Rel r q):Br V (some r) (some q)
inductive Cal (s:Pl) (i:Nat):Option RW→Option RR→Option RR→Prop
 |nil (h:Nil0 s):Cal s i none none none
 |on {V:Nat} {ow:Option RW} {r1 r2:Option RR} (hV:V≤16) (h:InW V nmF s) (hw:∀w,ow=some w→sO nmF V w (bB V)∧w.rows≤i) (hr:Br V r1 r2):Cal s i ow r1 r2
theorem Cal.mono {s:Pl} {i:Nat} {ow:Option RW} {r1 r2:Option RR} (h:Cal s i ow r1 r2):Cal s (i+1) ow r1 r2:=by
 cases h with
 |nil h=>exact .nil h
 |on hV h hw hr=>exact .on hV h (fun w e=>⟨(hw w e).1,Nat.le_succ_of_le (hw w e).2⟩) hr
theorem Cal.make {s:Pl} {i:Nat} {W:Int} {ow:Option RW} {r1 r2:Option RR} (h:Cal s i ow r1 r2):
  ((aH s nmF W).2.1=none→Cal (aH s nmF W).1 (i+1) ow r1 r2)∧∀w,(aH s nmF W).2.1=some w→Cal (aH s nmF W).1 (i+1) (some w) r1 r2:=by
 cases h with
 |nil h=>
   rcases h.make (n:=nmF) (x:=W) with ⟨q1,q2⟩|⟨U,rfl,q1,q2,q3⟩
   ·exact⟨fun _=>.nil q2,fun w e=>by rw[q1] at e;cases e⟩
   ·refine⟨fun e=>by (rw[q2] at e;cases e),fun w e=>?_⟩
    obtain rfl:rl nmF U=w:=Option.some.inj (q2.symm.trans e)
    exact .on q1 q3 (fun w e=>by cases e;exact⟨sO.new q1,Nat.zero_le _⟩) .none
 |on hV h hw hr=>
   obtain⟨q1,q2⟩:=h.make (x:=W)
   exact⟨fun _=>.on hV q2 (fun w e=>⟨(hw w e).1,Nat.le_succ_of_le (hw w e).2⟩) hr,fun w e=>by rw[q1] at e;cases e⟩
theorem Cal.open {s:Pl} {i:Nat} {W:Int} {ow:Option RW} {r1 r2:Option RR} (h:Cal s i ow r1 r2):
  ((rnOpen s nmF W).2.1=none→Cal (rnOpen s nmF W).1 (i+1) ow r1 r2)∧∀r,(rnOpen s nmF W).2.1=some r→Cal (rnOpen s nmF W).1 (i+1) ow (some r) (some r):=by
 cases h with
 |nil h=>
   obtain⟨q1,q2⟩:=h.open (n:=nmF) (x:=W)
   exact⟨fun _=>.nil q2,fun w e=>by rw[q1] at e;cases e⟩
 |on hV h hw hr=>
   obtain⟨q1,q2⟩:=h.open (x:=W) hV
   exact⟨fun _=>.on hV q1 (fun w e=>⟨(hw w e).1,Nat.le_succ_of_le (hw w e).2⟩) hr,fun r e=>.on hV q1 (fun w e=>⟨(hw w e).1,Nat.le_succ_of_le (hw w e).2⟩) (.some (q2 r e) (.inl rfl))⟩
theorem sO.Cv {V:Nat} {w:RW} (h:sO nmF V w (bB V)) (hV:V≤16):w.wait.length≤504∧w.n≤504:=by
 obtain⟨r1,r2,r3,r4⟩:=bE (Nat.zero_le V) hV
 obtain⟨L,hL⟩:=h.lay
 have h1:=hL.room
 refine⟨?_,by rw[hL.n];omega⟩
 rw[hL.wait,fW (Nat.zero_le V) hL.rise.len]
 exact Nat.le_trans (Nat.mul_le_mul_right _ (Nat.le_of_lt h1)) r3
theorem ROK.E5 {V:Nat} {r:RR} {s:Pl} (hs:InW V nmF s) (h:ROK nmF V r) (hV:V≤16):(r.next s).2.2.1.length≤16:=by
 unfold RR.next
 split
 ·simp
 split
 ·simp
 split
 ·simp
 show ((r.load s (r.at_/r.b.room)).2.1.ins.getD (r.at_%r.b.room) []).length≤16
 rw[List.getD]
 cases e:(r.load s (r.at_/r.b.room)).2.1.ins[r.at_%r.b.room]? with
 |none=>simp
 |some l=>
   simp only[Option.getD_some]
   rw[(h.load hs hV _).2.rise.len l (List.mem_of_getElem? e)];exact hV
theorem RR.re {r:RR} {s:Pl} (h:r.b.ready≠0):r.next s=(s,r,[],false,r.b.ready):=if_pos h
theorem RR.rf {r:RR} {s:Pl} {ll:List Int} (h:r.b.ready≠0):r.bL s ll=(s,r,r.b.ready):=if_pos h
theorem Rb.wb (b:Rb):({b with closed:=true}:Rb).ready≠0:=by
 unfold Rb.ready
 split
 ·assumption
 ·simp
def BT (H0 A:Heap) (bb dp dm p m i:Nat):Prop:=∃c s ow r1 r2 a4 a5 a6 a7,gn H0 A c bb dp dm p m s s ow ow r1 r2 a4 a5 a6 a7∧Bd s (40*i+50) (4300*i+5000)∧Cal s i ow r1 r2
section
variable {H0 A:Heap} {c:Nat→Nat} {bb dp dm p m:Nat} {s1 s2:Pl} {w w1 w2:Option RW} {r1 r2:Option RR} {rd:RR} {a4 a5 a6 a7:Option Addr} {l:Sl} {ll:List Int}
theorem D0.ints (h:D0 H0 A c bb dp dm p m a4 a5 a6 a7) (hl:Ints .u64 H0 l ll):Ints .u64 A l ll∧∀ad,l.a=some ad→ll≠[]→c ad.block=0:=by
 refine⟨⟨hl.len,fun i v hv=>?_⟩,fun ad ha hne=>?_⟩
 ·obtain⟨ad,ha,hc⟩:=hl.reads i v hv
  have hlt:=eD hc
  exact⟨ad,ha,(du (h.old _ hlt).2).trans hc⟩
 ·have h0:0<ll.length:=List.length_pos_iff.2 hne
  obtain⟨ad',ha',hc⟩:=hl.at h0
  obtain rfl:ad=ad':=Option.some.inj (ha.symm.trans ha')
  have hlt:=eD hc
  rw[cE] at hlt
  exact(h.old _ hlt).1
theorem AP {K:Unit→Heap→Prop} (h:gn H0 A c bb dp dm p m s1 s2 w1 w2 (some rd) r2 a4 a5 a6 a7)
  (hK:∀B,CS (fun i=>i=5) c c A B→gn H0 B c bb dp dm p m s1 s2 w1 w2 (some rd.stop) r2 a4 a5 a6 a7→K () B):Ex.sp a6 A K:=by
 obtain⟨k,si,rs,rfl,hw,hc⟩:=h.r1
 refine Ex.of ?_
 unfold Ex.vc
 refine aU rfl ?_
 refine c6 _ rfl ?_
 simp only[add_add,Nat.reduceAdd]
 refine ai.st hw.row (i:=5) (by simp[bw]) rfl fun D rD mD zD=>?_
 have X:CS (fun i=>i=5) c c A D:=⟨Nat.le_of_eq zD.symm,fun b hb hn=>⟨rfl,mD.same b hb fun e=>hn (by rw[e];exact hc k (.inl rfl))⟩⟩
 refine hK D X (h.aZ X (by decide) (by decide) (.inl ⟨by decide,rfl⟩) (.inl ⟨by decide,rfl⟩) (.inl ⟨by decide,rfl⟩) (.inl ⟨by decide,rfl⟩) (.inr ⟨k,si,rs,rfl,⟨?_,?_⟩,hc⟩) (.inl ⟨by decide,rfl⟩))
 ·exact rD
 ·exact hw.ins.mod mD (fun b hb q=>hw.nN (q▸hb)) fun x hx b hb q=>hw.ly x hx (q▸hb)
theorem AM {K:Heap→Prop} (h:gn H0 A c bb dp dm p m s1 s2 w1 w2 r1 (some rd) a4 a5 a6 a7)
  (hK:∀B,CS (fun i=>i=6) c c A B→gn H0 B c bb dp dm p m s1 s2 w1 w2 r1 (some rd.stop) a4 a5 a6 a7→K B):ab a7 fun a=>st A ((a.add 0).add 4) (.bool true) K:=by
 obtain⟨k,si,rs,rfl,hw,hc⟩:=h.r2
 refine c6 _ rfl ?_
 simp only[add_add,Nat.reduceAdd]
 refine ai.st hw.row (i:=4) (by simp[bQ]) rfl fun D rD mD zD=>?_
 have X:CS (fun i=>i=6) c c A D:=⟨Nat.le_of_eq zD.symm,fun b hb hn=>⟨rfl,mD.same b hb fun e=>hn (by rw[e];exact hc k (.inl rfl))⟩⟩
 refine hK D X (h.aZ X (by decide) (by decide) (.inl ⟨by decide,rfl⟩) (.inl ⟨by decide,rfl⟩) (.inl ⟨by decide,rfl⟩) (.inl ⟨by decide,rfl⟩) (.inl ⟨by decide,rfl⟩) (.inr ⟨k,si,rs,rfl,⟨?_,?_⟩,hc⟩))
 ·exact rD
 ·exact hw.ins.mod mD (fun b hb q=>hw.nN (q▸hb)) fun x hx b hb q=>hw.ly x hx (q▸hb)
end
section
variable {H0 A:Heap} {bb dp dm p m i:Nat} {kd W:Int} {l:Sl} {ll:List Int} {K:Bool→Heap→Prop}
set_option maxHeartbeats 4000000 in
theorem xQ (t:BT H0 A bb dp dm p m i) (hg:Gl H0) (hi:i≤300) (hl:Ints .u64 H0 l ll) (hf:oL ll) (hlen:ll.length≤17592186043904)
  (hK:∀B,BT H0 B bb dp dm p m (i+1)→K true B):CX.sp (ay bb) kd l W A K:=by
 obtain⟨c,s,ow,r1,r2,a4,a5,a6,a7,h,hb,hcal⟩:=t
 refine CX.of ?_
 unfold CX.vc
 simp only[ak,ay]
 refine au fun A1 z1 rp e1=>?_
 have X1:CS (fun _=>False) c (dd c A (fun b=>b=A.size) (fun _=>False) 8 9) A A1:=eK e1 (fun b _ q=>q) (fun b q hb=>by omega) (fun b q=>q.elim)
 have c8:dd c A (fun b=>b=A.size) (fun _=>False) 8 9 A.size=8:=dx rfl
 have h1:=h.aZ X1 id id (.inl ⟨id,rfl⟩) (.inl ⟨id,rfl⟩) (.inl ⟨id,rfl⟩) (.inl ⟨id,rfl⟩) (.inl ⟨id,rfl⟩) (.inl ⟨id,rfl⟩)
 generalize dd c A (fun b=>b=A.size) (fun _=>False) 8 9=c1 at*
 clear X1
 obtain⟨pb,hpb⟩:∃pb,pb=A.size:=⟨_,rfl⟩
 rw[←hpb] at rp c8 ⊢
 refine rp.ld (c:=aa .i64) (i:=0) (x:=kd) rfl ?_
 refine sY (by omega) ?_
 rw[if_neg (by omega)]
 obtain⟨k,hk⟩:∃k,k=kd.emod 7:=⟨_,rfl⟩
 have hk0:0≤k∧k<7:=by rw[hk];exact⟨Int.emod_nonneg _ (by decide),Int.emod_lt_of_pos _ (by decide)⟩
 rw[←hk]
 clear hk
 have gA:=h1.hd.gl hg
 have hx:40*i+50<1000000:=by omega
 have hy:4300*i+5000<100000000:=by omega
 have same:∀{B c' a4 a5 a6 a7},gn H0 B c' bb dp dm p m s s ow ow r1 r2 a4 a5 a6 a7→K true B:=fun g=>hK _ ⟨_,_,_,_,_,_,_,_,_,g,hb.mono (by omega) (by omega),hcal.mono⟩
 have hrow:∀{B:Heap},ai B pb Ei #[.int .i64 kd,l.v,.int .i64 W]→∀{P:Sl→Prop},P l→ld aq B (Addr.add ⟨pb,0,none⟩ 1) P:=fun r _ q=>r.ld (c:=aq) (i:=1) (x:=l) rfl q
 have hwid:∀{P:Int→Prop},P W→ld (aa .i64) A1 (Addr.add ⟨pb,0,none⟩ 2) P:=fun q=>rp.ld (c:=aa .i64) (i:=2) (x:=W) rfl q
 rcases (by omega:k=0∨k=1∨k=2∨k=3∨k=4∨k=5∨k=6) with rfl|rfl|rfl|rfl|rfl|rfl|rfl
 ·-- Add
  refine uz h1.hd.row (i:=5) (a:=a5) rfl rfl ?_
  cases ow with
  |none=>
    have e5:a5=none:=h1.w2
    subst e5
    exact ar rfl (ct rfl (ar rfl (ar rfl (ct rfl (ar rfl (ct rfl (ar rfl (ct rfl (ar rfl (ar rfl (same h1)))))))))))
  |some w=>
    cases hcal with
    |on hV hs hw hr=>
    rename_i V
    obtain⟨hw1,hw2⟩:=hw w rfl
    obtain⟨wl1,wl2⟩:=hw1.Cv hV
    have h5:a5.isNone=false:=by obtain⟨_,_,_,rfl,_⟩:=h1.w2;rfl
    refine aU (by rw[h5];rfl) ?_
    refine hrow rp ?_
    refine zm (h1.hd.ints hl).1 hlen fun lt A2 lr e2=>?_
    have X2:CS (fun _=>False) c1 (dd c1 A1 (fun _=>False) (fun _=>False) 9 9) A1 A2:=eK e2 (fun b _ q=>q) (fun b q=>q.elim) (fun b q=>q.elim)
    have h2:=h1.aZ X2 id id (.inl ⟨id,rfl⟩) (.inl ⟨id,rfl⟩) (.inl ⟨id,rfl⟩) (.inl ⟨id,rfl⟩) (.inl ⟨id,rfl⟩) (.inl ⟨id,rfl⟩)
    have c82:dd c1 A1 (fun _=>False) (fun _=>False) 9 9 pb=8:=((X2.keep pb (az rp) id).1).trans c8
    have c9:∀b,aj lt b→dd c1 A1 (fun _=>False) (fun _=>False) 9 9 b=9:=fun b hb=>by
     have:=(lr.block b hb).1
     unfold dd;rw[if_neg id,if_neg id,if_neg (by omega)]
    generalize dd c1 A1 (fun _=>False) (fun _=>False) 9 9=c2 at*
    have rp2:=rp.mod e2 id
    refine h2.hd.row.ld (c:=al) (i:=4) (x:=a4) rfl ?_
    refine Cf h2 hg hb hx hy lr.ints (fun ad ha q=>by rw[c9 _ ⟨ad,ha,rfl⟩] at q;exact absurd q (by decide)) (fun e=>by rw[hw1.width] at e;omega) (by omega) (by omega) (by omega) hw1.name fun B c3 X3 h3=>?_
    have rp3:=rp2.mod X3.mod (by show ¬_;rw[c82];decide)
    have lr3:=lr.mod X3.mod (fun b hb=>by show ¬_;rw[c9 b hb];decide)
    have c93:∀b,aj lt b→c3 b=9:=fun b hb=>by rw[(X3.keep b (lr.block b hb).2 (by rw[c9 b hb];decide)).1];exact c9 b hb
    have c83:c3 pb=8:=((X3.keep pb (az rp2) (by rw[c82];decide)).1).trans c82
    refine hrow rp3 ?_
    refine zi lr3 (h3.hd.ints hl).1 hlen ?_
    refine qN lr3.row (by rw[lr3.len];exact hlen) (Nat.le_trans e2.size X3.size) fun C m4=>?_
    have X4:CS (fun i=>i=9) c3 c3 B C:=⟨m4.size,fun b hb hn=>⟨rfl,m4.same b hb fun q=>hn (c93 b q)⟩⟩
    have h4:=h3.aZ X4 (by decide) (by decide) (.inl ⟨by decide,rfl⟩) (.inl ⟨by decide,rfl⟩) (.inl ⟨by decide,rfl⟩) (.inl ⟨by decide,rfl⟩) (.inl ⟨by decide,rfl⟩) (.inl ⟨by decide,rfl⟩)
    have rp4:=rp3.mod X4.mod (by show ¬_;rw[c83];decide)
    refine aU rfl ?_
    refine h4.hd.row.ld (c:=al) (i:=5) (x:=a5) rfl ?_
    refine hrow rp4 ?_
    obtain⟨hl4,hl40⟩:=h4.hd.ints hl
    refine Dh h4 hb hx hy hl4 (fun ad ha hne q=>by rw[hl40 ad ha hne] at q;exact absurd q (by decide)) (fun e=>by rw[hw1.width] at e;omega) (by omega) (by omega) (by omega) hw1.name fun D c5 X5 h5=>?_
    rw[beq_self_eq_true]
    obtain⟨q1,q2,q3⟩:=hw1.add hs hV hf
    exact hK D ⟨_,_,_,_,_,_,_,_,_,h5,(hb.add (by omega) ll).mono (by omega) (by omega),.on hV q1 (fun w' e=>by cases e;exact⟨q2,by omega⟩) hr⟩
 ·-- Close of the writer
  refine ct rfl (ar rfl ?_)
  refine uz h1.hd.row (i:=5) (a:=a5) rfl rfl ?_
  cases ow with
  |none=>
    have e5:a5=none:=h1.w2
    subst e5
    exact ar rfl (ar rfl (ct rfl (ar rfl (ct rfl (ar rfl (ct rfl (ar rfl (ar rfl (same h1)))))))))
  |some w=>
    cases hcal with
    |on hV hs hw hr=>
    rename_i V
    obtain⟨hw1,hw2⟩:=hw w rfl
    have h5:a5.isNone=false:=by obtain⟨_,_,_,rfl,_⟩:=h1.w2;rfl
    refine aU (by rw[h5];rfl) ?_
    refine h1.hd.row.ld (c:=al) (i:=4) (x:=a4) rfl ?_
    refine xm h1 hg hb hx hy (by omega) (by rw[hw1.width];omega) hw1.name fun B c3 X3 hfs h3=>?_
    refine h3.hd.row.ld (c:=al) (i:=5) (x:=a5) rfl ?_
    refine xv h3 hb hx hy (by omega) (by rw[hw1.width];omega) hw1.name fun C c4 X4 h4=>?_
    rw[beq_self_eq_true,beq_self_eq_true]
    obtain⟨q1,q2,q3⟩:=hw1.close hs hV
    exact hK C ⟨_,_,_,_,_,_,_,_,_,h4,(hb.close (by omega) hfs).mono (by omega) (by omega),.on hV q1 (fun w' e=>by cases e;exact⟨q2,by omega⟩) hr⟩
 ·-- Open
  refine ct rfl (ar rfl (ct rfl (ar rfl (aU rfl ?_))))
  refine hwid ?_
  obtain⟨o1,o2⟩:=hcal.open (W:=W)
  exact zW h1 hg hb hx hy (fun e B c' g=>hK B ⟨_,_,_,_,_,_,_,_,_,g,(hb.open (by omega)).mono (by omega) (by omega),o1 e⟩) (fun r e B c' b6 b7 g=>hK B ⟨_,_,_,_,_,_,_,_,_,g,(hb.open (by omega)).mono (by omega) (by omega),o2 r e⟩)
 ·-- Next
  refine ct rfl (ar rfl (ct rfl (ar rfl (ar rfl ?_))))
  refine uz h1.hd.row (i:=7) (a:=a7) rfl rfl ?_
  cases hcal with
  |nil hn=>
    have e7:a7=none:=h1.r2
    subst e7
    exact ar rfl (ct rfl (ar rfl (ct rfl (ar rfl (ar rfl (same h1))))))
  |on hV hs hw hr=>
    rename_i V
    cases hr with
    |none=>
      have e7:a7=none:=h1.r2
      subst e7
      exact ar rfl (ct rfl (ar rfl (ct rfl (ar rfl (ar rfl (same h1))))))
    |some hr hq=>
    rename_i r q
    have h7:a7.isNone=false:=by obtain⟨_,_,_,rfl,_⟩:=h1.r2;rfl
    refine aU (by rw[h7];rfl) ?_
    refine h1.hd.row.ld (c:=al) (i:=6) (x:=a6) rfl ?_
    have key:∃q':RR,q.next s=((r.next s).1,q',(r.next s).2.2)∧Rel (r.next s).2.1 q'∧q.Ok∧q.b.name=nmF:=by
     rcases hq with rfl|⟨u1,u2,u3⟩
     ·exact⟨_,rfl,.inl rfl,hr.ok,hr.name⟩
     ·have u4:q.b.ready≠0:=by rw[u1];exact u2
      rw[RR.re u4,RR.re u2]
      exact⟨q,by rw[u1],.inr ⟨u1,u2,u3⟩,u3,by rw[u1];exact hr.name⟩
    obtain⟨q',k1,k2,k3,k4⟩:=key
    obtain⟨n1,n2⟩:=hr.next hs hV
    have n3:=hr.E5 hs hV
    refine zJ h1 hg hb hx hy hr.ok hr.name fun B c3 x X3 h3 ox x9=>?_
    refine h3.hd.row.ld (c:=al) (i:=7) (x:=a7) rfl ?_
    refine zQ h3 hb hx hy k3 k4 fun C c4 y X4 h4 iy=>?_
    rw[k1] at h4 iy ⊢
    have ox4:=ox.mod X4.mod (fun b hb=>by show ¬_;rw[x9 b hb];decide)
    have x94:∀b,aj x b→c4 b=9:=fun b hb=>by rw[(X4.keep b (ox.lt b hb) (by rw[x9 b hb];decide)).1];exact x9 b hb
    refine aU (by simp) ?_
    refine vh ox4.ints iy (by omega) ?_
    have hxn:x.n=(r.next s).2.2.1.length:=ox4.ints.len
    refine zB ox4 (by rw[hxn];omega) (Nat.zero_le _) fun D m5=>?_
    rw[decide_eq_true (rfl:(r.next s).2.2.1=(r.next s).2.2.1)]
    have X5:CS (fun i=>i=9) c4 c4 C D:=⟨m5.size,fun b hb hn=>⟨rfl,m5.same b hb fun q=>hn (x94 b q)⟩⟩
    have h5:=h4.aZ X5 (by decide) (by decide) (.inl ⟨by decide,rfl⟩) (.inl ⟨by decide,rfl⟩) (.inl ⟨by decide,rfl⟩) (.inl ⟨by decide,rfl⟩) (.inl ⟨by decide,rfl⟩) (.inl ⟨by decide,rfl⟩)
    exact hK D ⟨_,_,_,_,_,_,_,_,_,h5,(hb.next (by omega)).mono (by omega) (by omega),.on hV n1 (fun w e=>⟨(hw w e).1,Nat.le_succ_of_le (hw w e).2⟩) (.some n2 k2)⟩
 ·-- Seek
  refine ct rfl (ar rfl (ct rfl (ar rfl (ar rfl (ct rfl (ar rfl ?_))))))
  refine uz h1.hd.row (i:=7) (a:=a7) rfl rfl ?_
  cases hcal with
  |nil hn=>
    have e7:a7=none:=h1.r2
    subst e7
    exact ar rfl (ct rfl (ar rfl (ar rfl (same h1))))
  |on hV hs hw hr=>
    rename_i V
    cases hr with
    |none=>
      have e7:a7=none:=h1.r2
      subst e7
      exact ar rfl (ct rfl (ar rfl (ar rfl (same h1))))
    |some hr hq=>
    rename_i r q
    have h7:a7.isNone=false:=by obtain⟨_,_,_,rfl,_⟩:=h1.r2;rfl
    refine aU (by rw[h7];rfl) ?_
    refine⟨fun B=>ai B pb Ei #[.int .i64 kd,l.v,.int .i64 W]∧ai B bb CD (fN dp dm p m a4 a5 a6 a7),⟨rp,h1.hd.row⟩,?_⟩
    refine h1.hd.row.ld (c:=al) (i:=6) (x:=a6) rfl ?_
    refine ai.dK (c:=aq) (i:=1) (x:=l) (cs:=fun _=>#[.int .i64 kd,l.v,.int .i64 W]) (fun B g=>g.1) (fun _ _=>rfl) ?_
    obtain⟨hl1,hl10⟩:=h1.hd.ints hl
    obtain⟨n1,n2⟩:=hr.bL hs hV ll
    refine yX h1 hg hb hx hy hr hs hV hl1 hl10 (fun e=>by rw[hr.width] at e;omega) fun B c3 X3 h3=>?_
    refine⟨⟨rp.mod X3.mod (by show ¬_;rw[c8];decide),h3.hd.row⟩,?_⟩
    refine ai.dK (c:=al) (i:=7) (x:=a7) (cs:=fun _=>fN dp dm p m a4 a5 a6 a7) (fun B g=>g.2) (fun _ _=>rfl) ?_
    refine ai.dK (c:=aq) (i:=1) (x:=l) (cs:=fun _=>#[.int .i64 kd,l.v,.int .i64 W]) (fun B g=>g.1) (fun _ _=>rfl) ?_
    have key:q.bL s ll=((r.bL s ll).1,(q.bL s ll).2.1,(r.bL s ll).2.2)∧(∀q':RR,q'.Ok→(q'=(q.bL s ll).2.1∨q'.b=(q.bL s ll).2.1.b∧q'.b.ready≠0)→Rel (r.bL s ll).2.1 q')∧q.Ok∧q.b.name=nmF∧q.b.width=V:=by
     rcases hq with rfl|⟨u1,u2,u3⟩
     ·exact⟨rfl,fun q' v1 v2=>v2.elim .inl fun v=>.inr ⟨v.1,by rw[←v.1];exact v.2,v1⟩,hr.ok,hr.name,hr.width⟩
     ·have u4:q.b.ready≠0:=by rw[u1];exact u2
      rw[RR.rf u4,RR.rf u2]
      refine⟨by rw[u1],fun q' v1 v2=>?_,u3,by rw[u1];exact hr.name,by rw[u1];exact hr.width⟩
      have v3:q'.b=r.b:=v2.elim (fun v=>by rw[v];exact u1) fun v=>v.1.trans u1
      exact .inr ⟨v3,u2,v1⟩
    obtain⟨k1,k2,k3,k4,k5⟩:=key
    obtain⟨hl3,hl30⟩:=h3.hd.ints hl
    have hbs:=hb.bL (by omega) hr.ok ll
    refine zE h3 hb hx hy k3 k4 hl3 hl30 (fun e=>by rw[k5] at e;omega) fun C c4 q' X4 h4 v1 v2=>?_
    rw[k1] at h4
    have e9:(q.bL s ll).2.2=(r.bL s ll).2.2:=by rw[k1]
    rw[e9,beq_self_eq_true]
    exact hK C ⟨_,_,_,_,_,_,_,_,_,h4,hbs.mono (by omega) (by omega),.on hV n1 (fun w e=>⟨(hw w e).1,Nat.le_succ_of_le (hw w e).2⟩) (.some n2 (k2 q' v1 v2))⟩
 ·-- Close of the reader
  refine ct rfl (ar rfl (ct rfl (ar rfl (ar rfl (ct rfl (ar rfl (ct rfl (ar rfl ?_))))))))
  refine uz h1.hd.row (i:=7) (a:=a7) rfl rfl ?_
  cases hcal with
  |nil hn=>
    have e7:a7=none:=h1.r2
    subst e7
    exact ar rfl (ar rfl (same h1))
  |on hV hs hw hr=>
    rename_i V
    cases hr with
    |none=>
      have e7:a7=none:=h1.r2
      subst e7
      exact ar rfl (ar rfl (same h1))
    |some hr hq=>
    rename_i r q
    have h7:a7.isNone=false:=by obtain⟨_,_,_,rfl,_⟩:=h1.r2;rfl
    refine aU (by rw[h7];rfl) ?_
    refine h1.hd.row.ld (c:=al) (i:=6) (x:=a6) rfl ?_
    refine AP h1 fun B X3 h3=>?_
    refine h3.hd.row.ld (c:=al) (i:=7) (x:=a7) rfl ?_
    refine AM h3 fun C X4 h4=>?_
    have k2:Rel r.stop q.stop:=by
     rcases hq with rfl|⟨u1,u2,u3⟩
     ·exact .inl rfl
     ·exact .inr ⟨by show ({q.b with closed:=true}:Rb)=_;rw[u1];rfl,r.b.wb,u3.room,u3.at_,u3.page,u3.rows,u3.cols⟩
    exact hK C ⟨_,_,_,_,_,_,_,_,_,h4,hb.mono (by omega) (by omega),.on hV hs (fun w e=>⟨(hw w e).1,Nat.le_succ_of_le (hw w e).2⟩) (.some hr.stop k2)⟩
 ·-- Make
  refine ct rfl (ar rfl (ct rfl (ar rfl (ar rfl (ct rfl (ar rfl (ct rfl (ar rfl (ct rfl (ar rfl (aU rfl ?_)))))))))))
  refine hwid ?_
  obtain⟨o1,o2⟩:=hcal.make (W:=W)
  exact ua h1 hg hb hx hy (fun e B c' g=>hK B ⟨_,_,_,_,_,_,_,_,_,g,(hb.make (by omega)).mono (by omega) (by omega),o1 e⟩) (fun r e B c' b6 b7 g=>hK B ⟨_,_,_,_,_,_,_,_,_,g,(hb.make (by omega)).mono (by omega) (by omega),o2 r e⟩)
end
set_option maxHeartbeats 2000000 in
theorem yi {H0 A:Heap} {c:Nat→Nat} {bb dp dm p m:Nat} {s:Pl} {w1 w2:Option RW} {r1 r2:Option RR} {a4 a5 a6 a7:Option Addr} {K:Bool→Heap→Prop} (h:gn H0 A c bb dp dm p m s s w1 w2 r1 r2 a4 a5 a6 a7) (hg:Gl H0) (hnx:s.next<1099511627776) (hl:s.d.logs<34359738368)
  (hK:∀B,Ext H0 B→K true B):CY.sp (ay bb) A K:=by
 refine CY.of ?_
 unfold CY.vc
 simp only[ak,ay]
 have gA:=h.hd.gl hg
 have e0:Ext H0 A:=⟨h.hd.size,fun b hb _=>(h.hd.old b hb).2⟩
 obtain⟨F1,c1,f1⟩:=h.p1
 obtain⟨F2,c2,f2⟩:=h.p2
 obtain⟨D1,a1,i1,_⟩:=c1.bc gA
 obtain⟨D2,a2,i2,_⟩:=c2.bc
 obtain⟨ll,hh,hll,hFm⟩:=c2.head
 have rb:=h.hd.row
 have a2':=a2
 obtain⟨fl,gs,cin,kp,g,hF2⟩:=a2'
 have hG:∀{B:Heap},Ext A B→ai B bb CD (fN dp dm p m a4 a5 a6 a7)∧ai B dm sK (cZ fl s.d.most s.d.quota s.d.ops s.d.next s.d.crash.isSome cin kp s.d.down)∧ai B m nW (dq dm ll s):=fun e=>⟨rb.ext e,g.head.ext e,hh.ext e⟩
 refine⟨fun B=>ai B bb CD (fN dp dm p m a4 a5 a6 a7)∧ai B dm sK (cZ fl s.d.most s.d.quota s.d.ops s.d.next s.d.crash.isSome cin kp s.d.down)∧ai B m nW (dq dm ll s),hG (.refl _ _),?_⟩
 refine rb.ld (c:=al) (i:=0) (x:=ay dp) rfl ?_
 refine Fm a1 ⟨hG (.refl _ _),?_⟩
 refine ai.dK (c:=al) (i:=1) (x:=ay dm) (cs:=fun _=>fN dp dm p m a4 a5 a6 a7) (fun B q=>q.1) (fun _ _=>rfl) ?_
 refine c6 _ rfl ⟨s.d.ops,fun A hA=>by rw[aW];exact hA.2.1.cell rfl,ar (by simp) ?_⟩
 refine rb.ld (c:=al) (i:=0) (x:=ay dp) rfl ?_
 refine C8 a1 ⟨hG (.refl _ _),?_⟩
 refine ai.dK (c:=al) (i:=1) (x:=ay dm) (cs:=fun _=>fN dp dm p m a4 a5 a6 a7) (fun B q=>q.1) (fun _ _=>rfl) ?_
 refine c6 _ rfl ⟨s.d.down,fun A hA=>by rw[aW];exact hA.2.1.cell rfl,ar (by simp) ?_⟩
 refine rb.ld (c:=al) (i:=2) (x:=ay p) rfl ?_
 refine sR c1 ⟨hG (.refl _ _),?_⟩
 refine ai.dK (c:=al) (i:=3) (x:=ay m) (cs:=fun _=>fN dp dm p m a4 a5 a6 a7) (fun B q=>q.1) (fun _ _=>rfl) ?_
 refine c6 _ rfl ⟨ll,fun A hA=>by rw[aW];exact hA.2.2.cell rfl,ar (by rw[hll];simp) ?_⟩
 refine rb.ld (c:=al) (i:=2) (x:=ay p) rfl ?_
 refine yu c1 (by omega) fun A1 e1=>⟨hG e1,?_⟩
 refine ai.dK (c:=al) (i:=3) (x:=ay m) (cs:=fun _=>fN dp dm p m a4 a5 a6 a7) (fun B q=>q.1) (fun _ _=>rfl) ?_
 refine tq (c2.ext e1) (ar (by simp) ?_)
 have rb1:=rb.ext e1
 have b1:=a1.keep fun b hb hbl=>e1.same b hbl id
 have b2:=a2.keep fun b hb hbl=>e1.same b hbl id
 have f1A:∀b,D1 b→c b=1:=fun b hb=>f1 b (i1 b hb)
 have f2A:∀b,D2 b→c b=2:=fun b hb=>f2 b (i2 b hb)
 have dj:∀b,D1 b→¬D2 b:=fun b hb q=>by have:=f1A b hb;rw[f2A b q] at this;exact absurd this (by decide)
 have o1:∀b,D1 b→H0.size≤b:=fun b hb=>Nat.le_of_not_lt fun q=>by have:=(h.hd.old b q).1;rw[f1A b hb] at this;exact absurd this (by decide)
 have o2:∀b,D2 b→H0.size≤b:=fun b hb=>Nat.le_of_not_lt fun q=>by have:=(h.hd.old b q).1;rw[f2A b hb] at this;exact absurd this (by decide)
 have n1:¬D1 bb:=fun q=>by have:=f1A bb q;rw[h.hd.cb] at this;exact absurd this (by decide)
 have n2:¬D2 bb:=fun q=>by have:=f2A bb q;rw[h.hd.cb] at this;exact absurd this (by decide)
 have e01:Ext H0 A1:=e0.trans e1
 refine rb1.ld (c:=al) (i:=0) (x:=ay dp) rfl ?_
 have l2:=b2.lt
 refine vr b1 (by omega) fun D1' B1 q1 S1=>?_
 have rb2:=rb1.mod S1.mod n1
 refine rb2.ld (c:=al) (i:=1) (x:=ay dm) rfl ?_
 have a2B:bY D2 B1 dm s.d:=b2.keep fun b hb hbl=>S1.mod.same b hbl fun q=>dj b q hb
 refine tE a2B (by omega) fun D2' B2 q2 S2=>?_
 have rb3:=rb2.mod S2.mod n2
 have dj':∀b,D1' b→¬D2 b:=fun b hb h2=>by
  rcases S1.own b hb with q|q
  ·exact dj b q h2
  ·have:=l2 b h2;omega
 have b1':bf D1' B2 dp s.d.cq:=q1.keep fun b hb hbl=>S2.mod.same b hbl (dj' b hb)
 have e2:Ext H0 B2:=⟨Nat.le_trans e01.size (Nat.le_trans S1.mod.size S2.mod.size),fun b hb _=>(S2.mod.same b (by have:=e01.size;have:=S1.mod.size;omega) fun q=>by have:=o2 b q;omega).trans ((S1.mod.same b (by have:=e01.size;omega) fun q=>by have:=o1 b q;omega).trans (e01.same b hb id))⟩
 have hlr:=s.d.sm
 generalize s.d.cq=t at*
 have hll:t.list.length≤4096:=by
  unfold Dk.list
  split
  ·simp
  ·rw[(List.mergeSort_perm _ _).length_eq];simp;exact q2.wf.files
 refine rb3.ld (c:=al) (i:=0) (x:=ay dp) rfl ?_
 refine Dx b1' fun l B3 o3 m3 g3=>?_
 refine(rb3.ext m3).ld (c:=al) (i:=1) (x:=ay dm) rfl ?_
 refine zI (q2.keep fun b hb hbl=>m3.same b hbl id) fun l2 B4 o4 m4 g4=>?_
 refine ry (o3.ext m4) o4 (by omega) ?_
 refine ar rfl ?_
 have m24:Ext B2 B4:=m3.trans m4
 have d1:bf D1' B4 dp t:=b1'.keep fun b hb hbl=>m24.same b hbl id
 have d2:bY D2' B4 dm t:=q2.keep fun b hb hbl=>m24.same b hbl id
 have rb4:=rb3.ext m24
 have o5:aG EN gu B4 l t.list:=o3.ext m4
 have hn:=aG.n o5 (by decide)
 have e5:Ext H0 B4:=e2.trans m24
 refine aw t.list.length (fun k x B=>x=(k:Int)∧Ext B4 B) ⟨rfl,.refl _ _⟩ ?_
 rintro k _ B6 next hk ⟨rfl,e6⟩ hnext
 refine ag (fun hc=>?_) (fun hc=>hK B6 (e5.trans e6))
 have hlt:k<t.list.length:=by rw[hn] at hc;simpa using hc
 have txt:∀{B:Heap} {K:ByteArray→Prop},Ext B4 B→K (ca t.list[k])→ab l.a fun a=>(0≤(k:Int)∧(k:Int)<(l.n:Int))∧ld aR B (a.add ((k:Int).toNat*1)) K:=fun e h=>oq (o5.ext e) hlt h
 refine(rb4.ext e6).ld (c:=al) (i:=1) (x:=ay dm) rfl ?_
 refine txt e6 ?_
 generalize ca t.list[k]=nm at*
 refine lJ (d2.keep fun b hb hbl=>e6.same b hbl id) (by omega) fun B7 e7=>?_
 have hlen:=Dk.jO d2.wf nm
 refine aw ((t.len nm).1+1) (fun j x B=>x=(j:Int)∧Ext B4 B) ⟨rfl,e6.trans e7⟩ ?_
 rintro j _ B8 next2 hj ⟨rfl,e8⟩ hnext2
 refine ag (fun hc2=>?_) (fun hc2=>hnext hlt _ _ ⟨aK k (by omega),e8⟩)
 have hjl:j<(t.len nm).1+1:=by simp at hc2;omega
 refine(rb4.ext e8).ld (c:=al) (i:=0) (x:=ay dp) rfl ?_
 refine txt e8 ?_
 refine wS (d1.keep fun b hb hbl=>e8.same b hbl id) fun r9 B9 o9 e9 g9=>?_
 refine(rb4.ext (e8.trans e9)).ld (c:=al) (i:=1) (x:=ay dm) rfl ?_
 refine txt (e8.trans e9) ?_
 refine Bc (d2.keep fun b hb hbl=>(e8.trans e9).same b hbl id) (by omega) fun r10 B10 o10 e10 g10=>?_
 refine ar (by simp) ?_
 refine iJ (bM (o9.ext e10)) ?_
 refine iJ o10 ?_
 refine ar (by simp) ?_
 exact hnext2 hjl _ _ ⟨aK j (by omega),(e8.trans e9).trans e10⟩
abbrev iu:=Int×Sl×Int
def zZ:eC iu:=⟨3,fun x=>[.int .i64 x.1,x.2.1.v,.int .i64 x.2.2],fun _=>rfl,fun x u hu=>by simp at hu;rcases hu with rfl|rfl|rfl<;>rfl⟩
def iu.AT (H:Heap) (x:iu):Prop:=∃ll,Ints .u64 H x.2.1 ll∧oL ll∧ll.length≤17592186043904
section
variable {H A:Heap} {script:Sl} {xs:List iu} {R:Bool→Heap→Prop}
structure GL (H A:Heap) (bb dp dm:Nat) (d:Dk):Prop where
 at_:∃D1 D2,bf D1 A dp d∧bY D2 A dm d∧(∀b,D1 b→¬D2 b)∧(∀b,D1 b→H.size≤b∧b≠bb)∧(∀b,D2 b→H.size≤b∧b≠bb)
 row:ai A bb CD #[.pointer (ay dp),.pointer (ay dm),.pointer none,.pointer none,.pointer none,.pointer none,.pointer none,.pointer none]
 ext:Ext H A
 bb:H.size≤bb
 logs:d.logs=0
 files:d.files=[]
set_option maxHeartbeats 2000000 in
theorem xz {quota frames q keep:Int} {K:(Option Addr×Bool)→Heap→Prop} (hg:Gl H) (hq:quota≤9223372036854775807) (hp:q≤9223372036854775807)
  (hK:∀B bb dp dm p m,BT H B bb dp dm p m 0→K (ay bb,true) B):EG.sp quota frames q keep H K:=by
 refine EG.of ?_
 unfold EG.vc
 refine Av hq fun F1 d H1 a1 e1 f1=>?_
 refine Cz hq fun F2 n H2 a2 e2 f2=>?_
 have a1':bf F1 H2 d (gk quota):=a1.keep fun b hb hbl=>e2.same b hbl id
 have l1:=a1.lt
 have l2:=a2.lt
 have l1':=a1'.lt
 have dj:∀b,F1 b→¬F2 b:=fun b hb hb2=>by have:=l1 b hb;have:=f2 b hb2;omega
 refine au fun H3 z3 r3 e3=>?_
 obtain⟨bb,hbb⟩:∃bb,bb=H2.size:=⟨_,rfl⟩
 rw[←hbb] at r3 ⊢
 have z1:=e1.size;have z2:=e2.size
 have g0:GL H H3 bb d n (gk quota):=⟨⟨F1,F2,a1'.keep fun b hb hbl=>e3.same b hbl id,a2.keep fun b hb hbl=>e3.same b hbl id,dj,fun b hb=>⟨f1 b hb,by have:=l1' b hb;omega⟩,fun b hb=>⟨Nat.le_trans z1 (f2 b hb),by have:=l2 b hb;omega⟩⟩,r3,(e1.trans e2).trans e3,by omega,rfl,rfl⟩
 refine⟨fun _ A=>∃sd,GL H A bb d n sd,?_,?_⟩
 ·refine ag (fun hcr=>?_) (fun hcr=>⟨_,g0⟩)
  obtain⟨D1,D2,b1,b2,dj1,o1,o2⟩:=g0.at_
  refine r3.ld (c:=al) (i:=0) (x:=ay d) rfl ?_
  refine Ae b1 hp fun D1' A1 c1 S1=>?_
  have k2:bY D2 A1 n (gk quota):=b2.keep fun b hb hbl=>S1.mod.same b hbl fun q=>dj1 b q hb
  have r4:=r3.mod S1.mod fun u=>(o1 bb u).2 rfl
  refine r4.ld (c:=al) (i:=1) (x:=ay n) rfl ?_
  refine xK k2 hp fun D2' A2 c2 S2=>?_
  have lk2:=k2.lt;have lb2:=b2.lt;have lc1:=c1.lt;have hb3:=az r3
  have zs1:=S1.mod.size;have zs2:=S2.mod.size;have z3':=e3.size
  have dj2:∀b,D1' b→¬D2 b:=fun b hb hb2=>by
   rcases S1.own b hb with u|u
   ·exact dj1 b u hb2
   ·have:=lb2 b hb2;omega
  refine⟨_,⟨⟨D1',D2',c1.keep fun b hb hbl=>S2.mod.same b hbl (dj2 b hb),c2,fun b hb hb2=>?_,fun b hb=>?_,fun b hb=>?_⟩,r4.mod S2.mod fun u=>(o2 bb u).2 rfl,⟨by omega,fun b hb _=>?_⟩,by omega,by rw[Dk.qb];rfl,by unfold Dk.cc;split<;>rfl⟩⟩
  ·rcases S2.own b hb2 with u|u
   ·exact dj2 b hb u
   ·have:=lc1 b hb;omega
  ·rcases S1.own b hb with u|u
   ·exact o1 b u
   ·exact⟨by omega,by omega⟩
  ·rcases S2.own b hb with u|u
   ·exact o2 b u
   ·exact⟨by omega,by omega⟩
  ·exact(S2.mod.same b (by omega) fun u=>by have:=(o2 b u).1;omega).trans ((S1.mod.same b (by omega) fun u=>by have:=(o1 b u).1;omega).trans (g0.ext.same b hb id))
 rintro _ A ⟨sd,g⟩
 have gA:Gl A:=hg.mod g.ext id
 have hgs:=hg.lt
 refine sY (by omega) ?_
 rw[if_neg (by omega)]
 obtain⟨j,hj⟩:∃j:Nat,frames.emod 12=(j:Int):=⟨(frames.emod 12).toNat,(Int.toNat_of_nonneg (Int.emod_nonneg frames (by decide))).symm⟩
 have hj12:(j:Int)<12:=hj▸Int.emod_lt_of_pos frames (by decide)
 rw[hj,wrap64 (by omega) (by omega)]
 have hm:(8:Int)+(j:Int)=((8+j:Nat):Int):=by omega
 rw[hm]
 obtain⟨D1,D2,b1,b2,dj1,o1,o2⟩:=g.at_
 have lb1:=b1.lt;have lb2:=b2.lt;have hbl:=az g.row
 refine g.row.ld (c:=al) (i:=0) (x:=ay d) rfl ?_
 refine pD gA b1 (fun u=>by have:=(o1 _ u).1;omega) (by omega) (by omega) fun P1 p B1 h1 x1 w1=>?_
 refine(g.row.ext x1).ld (c:=al) (i:=1) (x:=ay n) rfl ?_
 refine Bq (b2.keep fun b hb hbl=>x1.same b hbl id) (by omega) (by omega) fun P2 m B2 h2 x2 w2=>?_
 have lp1:=h1.lt;have lp2:=h2.lt
 have s1:=x1.size;have s2:=x2.size;have s0:=g.ext.size
 refine((g.row.ext x1).ext x2).st (i:=2) (by simp) rfl fun B3 r5 m5 z5=>?_
 refine r5.st (i:=3) (by simp) rfl fun B4 r6 m6 z6=>?_
 have m46:Mod (fun b=>b=bb) B2 B4:=m5.trans' m6 fun b _ u=>u
 have q1:∀b,P1 b→H.size≤b∧b≠bb:=fun b hb=>(w1 b hb).elim (o1 b) fun u=>⟨by omega,by omega⟩
 have q2:∀b,P2 b→H.size≤b∧b≠bb∧¬P1 b:=fun b hb=>(w2 b hb).elim (fun u=>⟨(o2 b u).1,(o2 b u).2,fun v=>(w1 b v).elim (fun v=>dj1 b v u) fun v=>by have:=lb2 b u;omega⟩) fun u=>⟨by omega,by omega,fun v=>by have:=lp1 b v;omega⟩
 have t1:=(h1.ext x2).keep fun b hb hbl=>m46.same b hbl (q1 b hb).2
 have t2:=h2.keep fun b hb hbl=>m46.same b hbl (q2 b hb).2.1
 have e4:Ext H B4:=⟨by have:=m46.size;omega,fun b hb _=>(m46.same b (by omega) (by have:=g.bb;omega)).trans (((g.ext.trans x1).trans x2).same b hb id)⟩
 refine hK B4 bb d n p m ⟨fun b=>open Classical in if b<H.size then 0 else if P1 b then 1 else if P2 b then 2 else if b=bb then 7 else 9,pl0 sd (8+j),none,none,none,none,none,none,none,⟨⟨r6,?_,fun b hb=>⟨if_pos hb,e4.same b hb id⟩,e4.size⟩,⟨P1,t1,fun b hb=>?_⟩,⟨P2,t2,fun b hb=>?_⟩,rfl,rfl,rfl,rfl⟩,⟨by intro f hf;simp[pl0] at hf,by show (0:Int)≤1;decide,by show (1:Int)≤_;omega,by show sd.logs≤_;rw[g.logs];omega⟩,.nil (Pl.AllP.pl0 fun f hf=>by rw[g.files] at hf;cases hf)⟩
 ·rw[if_neg (by have:=g.bb;omega),if_neg fun u=>(q1 bb u).2 rfl,if_neg fun u=>(q2 bb u).2.1 rfl,if_pos rfl]
 ·exact(if_neg (Nat.not_lt.2 (q1 b hb).1)).trans (if_pos hb)
 ·exact((if_neg (Nat.not_lt.2 (q2 b hb).1)).trans (if_neg (q2 b hb).2.2)).trans (if_pos hb)
set_option maxHeartbeats 2000000 in
theorem rC {quota frames width p keep:Int} (hg:Gl H) (hq:quota≤9223372036854775807) (hp:p≤9223372036854775807) (hx:cL zZ H script.a xs) (hn:script.n=xs.length) (hf:∀x∈xs,iu.AT H x)
  (hK:∀B,Ext H B→R true B):Fs.sp quota frames width script p keep H R:=by
 refine Fs.of ?_
 unfold Fs.vc
 refine ag (fun _=>hK H (.refl _ _)) (fun hc=>?_)
 have hxl:xs.length≤200:=by rw[hn] at hc;simp at hc;omega
 refine xz hg hq hp fun A bb dp dm p m t0=>?_
 refine ar rfl ?_
 obtain⟨c,s,ow,r1,r2,a4,a5,a6,a7,h,hb,hcal⟩:=t0
 have step:∀{B:Heap},BT H B bb dp dm p m 1→br (!true) (R false B) (aC Int (0:Int) B fun next i H3=>br (decide (i<(script.n:Int))) (ab script.a fun a=>(0≤i∧i<(script.n:Int))∧dE (cX [(aa .i64),aq,(aa .i64)]) 3 H3 (a.add (i.toNat*3)) fun(x:(Int×Sl×Int))=>CX.sp (ay bb) x.1 x.2.1 x.2.2 H3 fun(r_2:Bool) H4=>br (!r_2) (R false H4) (next (IntKind.i64.wrap (i+(1:Int))) H4)) (CY.sp (ay bb) H3 fun(r_3:Bool) H5=>br r_3 (Ce.sp H5 fun(r_4:Bool) H6=>R r_4 H6) (R false H5))):=fun {B} t=>by
  refine ar rfl ?_
  refine aw xs.length (fun k i B=>i=(k:Int)∧BT H B bb dp dm p m (k+1)) ⟨rfl,t⟩ ?_
  rintro k _ C next hk ⟨rfl,t⟩ hnext
  refine ag (fun hc=>?_) (fun hc=>?_)
  ·have hlt:k<xs.length:=by rw[hn] at hc;simpa using hc
   have hxk:xs[k]?=some xs[k]:=List.getElem?_eq_getElem hlt
   have hfk:=hf _ (List.mem_of_getElem? hxk)
   have t':=t
   obtain⟨_,_,_,_,_,_,_,_,_,g,_,_⟩:=t'
   have hxB:cL zZ C script.a xs:=hx.keep fun ad _ hal=>(g.hd.old _ hal).2
   obtain⟨ad,ha⟩:=cL.addr hxB (by decide) (by omega)
   rw[ha]
   refine⟨⟨by omega,by omega⟩,?_⟩
   obtain⟨⟨x,x1,x2⟩,hxe⟩:∃y,y=xs[k]:=⟨_,rfl⟩
   rw[←hxe] at hxk hfk
   refine cL.dE (E:=zZ) (c:=cX [(aa .i64),aq,(aa .i64)]) (y:=(x,x1,x2)) hxB ha hxk rfl (by simp[zZ]) rfl ?_
   obtain⟨ll,g1,g2,g3⟩:=hfk
   refine xQ t hg (by omega) g1 g2 g3 fun D t2=>?_
   refine ar rfl ?_
   exact hnext hlt _ _ ⟨aK k (by omega),t2⟩
  ·obtain⟨c,s,ow,r1,r2,a4,a5,a6,a7,h,hb,hcal⟩:=t
   have hi:=hb.hi;have hl:=hb.logs
   refine yi h hg (by omega) (by omega) fun D e=>?_
   refine aU rfl ?_
   exact ya (hg.mod e id) fun E e2=>hK E (e.trans e2)
 have hx:40*0+50<1000000:=by omega
 have hy:4300*0+5000<100000000:=by omega
 obtain⟨o1,o2⟩:=hcal.make (W:=width)
 exact ua h hg hb hx hy (fun e B c' g=>step ⟨_,_,_,_,_,_,_,_,_,g,(hb.make (by omega)).mono (by omega) (by omega),o1 e⟩) (fun r e B c' b6 b7 g=>step ⟨_,_,_,_,_,_,_,_,_,g,(hb.make (by omega)).mono (by omega) (by omega),o2 r e⟩)
end
end Go.Proofs.YtdpdmbceakdlmaaGreatDoor
namespace Go.Proofs.YtdpdmbceakdlmaaGreatDoor
open Go.ChangeShapes Go.WideShapes Go.ChangeAt Go.RowKit
def jk:List (TypeId×Nat):=[(fg,0),(jc,1),(fg,2)]
theorem rG:∃fs,Tryz.prog.underlying Ei=some (.struct fs)∧fs.toList.map (fun f=>(f.type,f.offset))=jk:=by
 have hb:(match Tryz.prog.underlying Ei with|some (.struct fs)=>(fs.toList.map (fun f=>(f.type,f.offset)))==jk|_=>false)=true:=by kernel_rfl
 split at hb
 ·rename_i fs q;exact⟨fs,q,by simpa using hb⟩
 ·cases hb
set_option maxRecDepth 100000 in
theorem tP {H:Type} {enc:TypeId×Value→H} {r:Reach} {b0:Nat} {W:World} {v:Value} {d:DataW H} {ps:List MemPlace}
  (hval:Value.okWide Tryz.prog W r b0 22 v) (h:DataW.Trod enc Tryz.prog W 0 (fun _=>true) true 22 v d ps) (hsz:∀n∈d.weights Tryz.prog 22,n≤reachBytes):
  ∃(s:Sl) (xs:List iu),v=Sl.v s∧cL zZ W.heap s.a xs∧s.n=xs.length∧∀x∈xs,iu.AT W.heap x:=by
 have ht:Tryz.prog.underlying 22=some (.slice Ei):=by kernel_rfl
 have hts:Tryz.prog.underlying jc=some (.slice iw):=by kernel_rfl
 have hc3:Tryz.prog.cellsOf Ei=3:=by kernel_rfl
 have hb8:Tryz.prog.bytesOf iw=8:=by kernel_rfl
 have hrb:reachBytes=140737488351232:=rfl
 obtain⟨fuel,hf⟩:=h
 rcases DataW.trod_slice ht hf with ⟨hcs,_⟩|⟨a,len,cap,elems,rest,n,_,hcs,hxd,_,hl,hm,hlen,hel,_,_⟩
 ·exact⟨Sl.mk none 0 0,[],one_cell ht hval hcs,Reads.nil _ _,rfl,by simp⟩
 ·have hd:d=.slice (elems.map (·.1)) (rest.map (·.1)):=congrArg Prod.fst hxd
  have each:∀i,i<len→∃x:iu,iu.AT W.heap x∧∀j u,(zZ.enc x)[j]?=some u→cp W.heap (a.add (i*3+j))=some u:=by
   intro i hi
   have h1:=hel i hi
   rw[hc3,List.getElem?_eq_getElem (by omega),Option.bind_eq_some_iff] at h1
   obtain⟨cs',hcs',hy⟩:=h1
   obtain⟨_,hlen3,hcell⟩:=World.cells?_some hcs'
   obtain⟨v0,v1,v2,rfl⟩:∃v0 v1 v2,cs'=[v0,v1,v2]:=by
    match cs',hlen3 with
    |[v0,v1,v2],_=>exact⟨v0,v1,v2,rfl⟩
   have hall:∀n∈(elems[i].1).weights Tryz.prog Ei,n≤reachBytes:=fun n hn=>hsz n (by
    rw[hd]
    unfold DataW.weights
    rw[ht]
    exact List.mem_cons_of_mem _ (List.mem_append.2 (.inl (nB hn (List.mem_map_of_mem (List.getElem_mem _))))))
   obtain⟨fs,hst,hfs⟩:=rG
   obtain⟨ys,k,_,hyx,_,hyl,hfd⟩:=DataW.trod_struct hst hy
   have hft:fs.toList.map (·.type)=[fg,jc,fg]:=by
    have:=congrArg (List.map Prod.fst) hfs
    rw[List.map_map] at this
    exact this
   have fld:∀(j:Nat) (t:TypeId) (o:Nat),jk[j]?=some (t,o)→Tryz.prog.cellsOf t=1→∃y,ys[j]?=some y∧DataW.trod enc Tryz.prog W 0 (fun _=>true) true k t (([v0,v1,v2].drop o).take 1)=some y:=by
    intro j t o hj hc
    rw[←hfs,List.getElem?_map] at hj
    obtain⟨f,hfj,hfe⟩:=Option.map_eq_some_iff.1 hj
    simp only[Prod.mk.injEq] at hfe
    obtain⟨rfl,rfl⟩:=hfe
    have hfj':fs[j]?=some f:=by simpa using hfj
    have hjs:j<ys.length:=by rw[hyl];exact(Array.getElem?_eq_some_iff.1 hfj').1
    have:=hfd j f hfj'
    rw[hc,List.getElem?_eq_getElem hjs] at this
    exact⟨_,List.getElem?_eq_getElem hjs,this⟩
   have c1:∀t∈([fg,jc]:List TypeId),Tryz.prog.cellsOf t=1:=by
    have hb:([fg,jc]:List TypeId).all (fun t=>Nat.beq (Tryz.prog.cellsOf t) 1)=true:=by kernel_rfl
    intro t ht
    exact Nat.eq_of_beq_eq_true (List.all_eq_true.1 hb t ht)
   obtain⟨y0,_,g0⟩:=fld 0 fg 0 rfl (c1 _ (by simp))
   obtain⟨y1,k1,g1⟩:=fld 1 jc 1 rfl (c1 _ (by simp))
   obtain⟨y2,_,g2⟩:=fld 2 fg 2 rfl (c1 _ (by simp))
   have hw1:∀n∈(y1.1).weights Tryz.prog jc,n≤reachBytes:=fun n hn=>hall n (by
    rw[hyx]
    unfold DataW.weights
    rw[hst]
    simp only
    rw[hft]
    exact DataW.weights_mem_each (j:=1) rfl (by rw[List.getElem?_map,k1];rfl) n hn)
   have hcellj:∀j,j<3→cp W.heap (a.add (i*3+j))=[v0,v1,v2][j]?:=fun j hj=>by
    have:=hcell j hj
    rw[Go.Deep.add_add] at this
    exact this
   have hi64:Tryz.prog.underlying fg=some (.int .i64):=by kernel_rfl
   have fin:∀(x0 x2:Int) (rr:Sl) (zs:List Int),[v0,v1,v2]=[.int .i64 x0,rr.v,.int .i64 x2]→Ints .u64 W.heap rr zs→(∀m∈zs,(Lit.int .u64 m).wf=true)→zs.length*8≤reachBytes→∃x:iu,iu.AT W.heap x∧∀j u,(zZ.enc x)[j]?=some u→cp W.heap (a.add (i*3+j))=some u:=fun x0 x2 rr zs e1 e2 e3 e4=>by
    refine⟨(x0,rr,x2),⟨zs,e2,fun x hx=>zo (e3 x hx),by omega⟩,fun j u hu=>?_⟩
    have hj:j<3:=by have:=(List.getElem?_eq_some_iff.1 hu).1;simpa[zZ] using this
    rw[hcellj j hj,e1]
    exact hu
   obtain⟨x0,e0,_⟩:=DataW.trod_int (k:=.i64) hi64 g0
   obtain⟨x2,e2,_⟩:=DataW.trod_int (k:=.i64) hi64 g2
   simp at e0 e2
   rcases open_ints hts (k:=.u64) (by kernel_rfl) (by kernel_rfl) g1 with ⟨hcs2,_⟩|⟨a2,len2,cap2,zs,hcs2,_,hl2,hm2,hz,hx,hcell2,hwz⟩
   ·simp at hcs2
    exact fin x0 x2 (Sl.mk none 0 0) [] (by rw[e0,hcs2,e2]) ⟨rfl,Reads.nil _ _⟩ (by simp) (by simp)
   ·simp at hcs2
    have hlen2:len2≤zs.length:=by rw[hz];simp;omega
    refine fin x0 x2 (Sl.mk (some a2) len2 cap2) (zs.take len2) (by rw[e0,hcs2,e2]) ⟨by simp;omega,?_⟩ (fun m hm=>hwz m (List.mem_of_mem_take hm)) ?_
    ·intro j v hv
     refine⟨a2,rfl,?_⟩
     have hj:j<len2:=by have:=(List.getElem?_eq_some_iff.1 hv).1;simp at this;omega
     have h1:=hcell2 j (by omega)
     rw[List.getElem?_map,List.getElem?_take,if_pos hj] at hv
     have h2:zs[j]?=some (zs.getD j 0):=by simp[List.getD,List.getElem?_eq_getElem (show j<zs.length by omega)]
     rw[h2] at hv
     simp only[Option.map_some,Option.some.injEq] at hv
     rw[←hv]
     exact h1
    ·have hw:((lits (H:=H) .u64 (zs.take len2)).length+(lits (H:=H) .u64 (zs.drop len2)).length)*Tryz.prog.bytesOf iw∈DataW.weights Tryz.prog jc y1.1:=by
      rw[hx]
      simp[DataW.weights,hts]
     have:=hw1 _ hw
     rw[hb8] at this
     refine Nat.le_trans (Nat.mul_le_mul_right _ ?_) this
     simp[lits]
  obtain⟨xs,h1,h2⟩:=collect (Q:=fun i (x:iu)=>iu.AT W.heap x∧∀j u,(zZ.enc x)[j]?=some u→cp W.heap (a.add (i*3+j))=some u) len each
  refine⟨Sl.mk (some a) len cap,xs,one_cell ht hval hcs,?_,h1.symm,fun x hx=>?_⟩
  ·intro q u hu
   have hq:q<xs.length*3:=by have:=(List.getElem?_eq_some_iff.1 hu).1;rwa [eC.bN] at this
   have hdm:q=q/3*3+q%3:=(Nat.div_add_mod' q 3).symm
   have hmod:=Nat.mod_lt q (show 0<3 by decide)
   rw[hdm,show q/3*3+q%3=q/3*zZ.size+q%3 from rfl,eC.oe zZ xs (q/3) (q%3) hmod] at hu
   have hq7:q/3<xs.length:=Nat.div_lt_of_lt_mul (by rw[Nat.mul_comm];exact hq)
   rw[List.getElem?_eq_getElem hq7] at hu
   refine⟨a,rfl,?_⟩
   have:=(h2 (q/3) hq7).2 (q%3) u hu
   rwa [←hdm] at this
  ·obtain⟨i,hi,rfl⟩:=List.getElem_of_mem hx
   exact(h2 i hi).1
set_option maxRecDepth 100000 in
theorem mL (os:Os) (started:os.Started) (H:Type) (enc:TypeId×Value→H):
  ReturnsInHanded {} Tryz.checked os 3 .any (fun w args=>(Rows.runsPlaysSpec.pre enc Tryz.prog Tryz.f3 [] false w args∧laidMetH Tryz.prog uo w)∧sizedMet enc Tryz.prog Tryz.f3 (OpenSpec.ofChange Rows.runsPlaysSpec) false w args)
   (Rows.runsPlaysSpec.post enc Tryz.prog Tryz.f3 false true false false):=by
 refine returnsInHanded_of_change_and (C:=Tryz.checked) (X:=fun w _=>laidMetH Tryz.prog uo w) (fun _ _ _ hh h=>h.of_heap hh) xw started (by kernel_rfl) Tryz.func3
  (ChangeSpec.witness_shaped (enc:=enc) (C:=Tryz.checked) (os:=os) (X:=fun w _=>laidMetH Tryz.prog uo w) false (World.doorLaid Tryz.prog 400 os) #[.int .i64 0,.int .i64 0,.int .i64 0,.slice none 0 0,.int .i64 0,.int .u64 0] 8 rfl (World.shaped_of_RefB (by kernel_rfl) (by kernel_rfl)) (by kernel_rfl) (by kernel_rfl) (by kernel_rfl) (AR os _)) ?_
 intro W base args ds gs before hval0 hW _ hz hL _
 have hval:∀(j:Nat) t v,Tryz.f3.params[j]?=some t→args[j]?=some v→Value.okWide Tryz.prog W .any base t v:=hval0
 have hW':=hW
 obtain⟨p,q,hA0,hV,rfl,hfz,hnd⟩:=hW
 have hA:DataW.TrodAll enc Tryz.prog W 0 (fun _=>true) true Tryz.f3.params.toList args.toList ds p:=hA0
 rw[Tryz.params3] at hA hval
 obtain⟨v0,v1,v2,v3,v4,v5,d0,d1,d2,d3,d4,d5,p0,p1,p2,p3,p4,p5,rfl,rfl,rfl,h0,h1,h2,h3,h4,h5⟩:=uC hA
 obtain⟨rfl,rfl⟩:=trodVars_none hV
 obtain⟨quota,rfl,hq⟩:=jP (k:=.i64) (hval 0 fg v0 rfl rfl) (by kernel_rfl)
 obtain⟨frames,rfl,_⟩:=jP (k:=.i64) (hval 1 fg v1 rfl rfl) (by kernel_rfl)
 obtain⟨width,rfl,_⟩:=jP (k:=.i64) (hval 2 fg v2 rfl rfl) (by kernel_rfl)
 have hsz:∀n∈d3.weights Tryz.prog 22,n≤reachBytes:=fun n hn=>by
  have:=List.all_eq_true.1 hz n (DataW.weights_mem_each (j:=3) (by rw[Tryz.params3];rfl) rfl n hn)
  simpa using this
 obtain⟨s,xs,rfl,hx,hlen,hfine⟩:=tP (hval 3 22 v3 rfl rfl) h3 hsz
 obtain⟨cin,rfl,hc⟩:=jP (k:=.i64) (hval 4 fg v4 rfl rfl) (by kernel_rfl)
 obtain⟨keep,rfl,_⟩:=jP (k:=.u64) (hval 5 23 v5 rfl rfl) (by kernel_rfl)
 have hspec:=rC (quota:=quota) (frames:=frames) (width:=width) (script:=s) (xs:=xs) (p:=cin) (keep:=keep) (H:=W.heap) (R:=fun b H'=>b=true∧Ext W.heap H') (vS hL) (wX hq).2 (wX hc).2 hx hlen hfine (fun H' e=>⟨rfl,e⟩)
 refine(hspec W rfl).mono fun e W' ⟨v,he,⟨x,hx,hb,hext⟩,hal⟩=>?_
 subst he;subst hx;subst hb
 exact⟨_,rfl,zV qc (by decide+kernel) rfl (by kernel_rfl) rfl rfl rfl rfl hW' hext hal⟩
theorem qd:Rows.RunsPlaysSaid:=
 OpenClaim.holds_of_wide 3 Tryz.f3 rfl rfl rfl rfl rfl rfl rfl ⟨rfl,rfl,rfl,rfl,rfl⟩ rfl rfl rfl rfl rfl (by kernel_rfl) Tryz.func3 (by kernel_rfl)
  (of_decide_eq_true (by kernel_rfl)) (by unfold Func.isWrapper;first|(rw[if_pos (by decide+kernel)];kernel_rfl)|(rw[if_neg (by decide+kernel)];exact⟨rfl,rfl⟩))
  (fun os started H enc _=>mL os started H enc)
theorem runsPlays_holds:Rows.RunsPlaysCardSaid:=
 Claim7.holds_tied_plain_at .later [] [.data] true _ false
  qd (fun _ h=>by cases h) (by kernel_rfl) (fun _ h=>by cases h) runsPlays_row_tie rfl ⟨rfl,rfl⟩ (by kernel_rfl) rfl
  (fun f fn hf hfn=>by
   obtain rfl:f=3:=Option.some.inj ((show Tryz.prog.funcNamed "fathom/fathomlaw07.RunsPlays"=some 3 by kernel_rfl).symm.trans hf) |>.symm
   obtain rfl:fn=Tryz.f3:=(Option.some.inj (Tryz.func3.symm.trans hfn)).symm
   exact⟨by kernel_rfl,fun j t ht=>by
    rw[Tryz.params3] at ht
    have hm:t∈[fg,fg,fg,22,fg,23]:=by simpa using Array.mem_of_getElem? ht
    have hall:([fg,fg,fg,22,fg,23].all fun u=>!Tryz.prog.wantsStandIn u)=true:=by kernel_rfl
    exact(show Tryz.prog.wantsStandIn t=false by simpa using List.all_eq_true.1 hall t hm)⟩)
  (by kernel_rfl)
#print axioms runsPlays_holds
end Go.Proofs.YtdpdmbceakdlmaaGreatDoor
