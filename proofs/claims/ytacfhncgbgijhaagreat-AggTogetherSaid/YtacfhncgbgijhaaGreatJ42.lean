/-
 Trees of rows in pages, in plain words.
-/
import Derived.Test.YtacfhncgbgijhaaGreatJ33
import Derived.Test.YtacfhncgbgijhaaGreatJ34
import Derived.Test.YtacfhncgbgijhaaGreatJ39
import Derived.Test.YtacfhncgbgijhaaGreatFxw
namespace Go.Proofs.YtacfhncgbgijhaaGreat
structure St where
 N:Nat
 T:Nat→UInt8×List UInt8
def Pl.mF [Tab] (p:Pl) (n:ByteArray) (k:Int) (kd:UInt8) (b:List UInt8):Pl×Int:=
 if (p.bn n k).2.2≠0 then ((p.bn n k).1,(p.bn n k).2.2) else Pl.leave ((p.bn n k).1.set (p.bn n k).2.1 kd b) (p.bn n k).2.1
section
variable {s:Pl} {n:ByteArray} {g:Int} {k:UInt8} {b:List UInt8}
end
theorem oH {T:Nat→UInt8×List UInt8} (h:∀k,(T k).2.length≤504) {j:Nat} {v:UInt8×List UInt8} (hv:v.2.length≤504):∀k,(gh T j v k).2.length≤504:=by
 intro k
 by_cases e:k=j
 ·subst e;rw[dJ];exact hv
 ·rw[cK e];exact h k
abbrev bI:=ByteArray→Option St
open Classical in
noncomputable def jz (M:bI) (n:ByteArray) (x:Option St):bI:=fun m=>if m=n then x else M m
theorem bm (M:bI) (n:ByteArray) (x:Option St):jz M n x n=x:=by unfold jz;rw[if_pos rfl]
theorem aK {M:bI} {n m:ByteArray} {x:Option St} (h:m≠n):jz M n x m=M m:=by unfold jz;rw[if_neg h]
theorem EA (M:bI) (n:ByteArray) (x y:Option St):jz (jz M n x) n y=jz M n y:=by
 funext m
 by_cases h:m=n
 ·subst h;rw[bm,bm]
 ·rw[aK h,aK h,aK h]
def Cl (l:List Fr) (n:ByteArray) (k:Nat):Prop:=∀g∈l,g.name=n→g.page=k→g.dirty=false
structure aN [Tab] (p:Pl) (M:bI) (Q U:Nat):Prop where
 wrong:p.wrong=0
 up:p.d.down=false
 calm:p.d.crash=none
 quota:p.d.quota=Q
 used:p.d.used=U
 nodup:(p.d.files.map fun f=>f.name.toList).Nodup
 file:∀(i:Nat) (f:Fl),p.d.files[i]?=some f→∃x,M f.name=some x∧f.ao.length=x.N∧∀(k:Nat) (b:Pg),f.ao[k]?=some b→Cl p.fs f.name k→fW b.1=some (x.T k)
 there:∀n x,M n=some x→∃(i:Nat) (f:Fl),p.d.files[i]?=some f∧f.name=n
 mine:∀g∈p.fs,∃x,M g.name=some x∧g.page<x.N∧x.T g.page=(g.kind,g.b)
theorem vX [Tab] {d:Dk} (hn:(d.files.map fun f=>f.name.toList).Nodup) {i:Nat} {f:Fl} (hf:d.files[i]?=some f):d.idx f.name=some i:=by
 unfold Dk.idx
 refine j5 hf (by simp) fun j y hj hy=>?_
 have e:y.name.toList=f.name.toList:=by simpa using hy
 have hi:=(List.getElem?_eq_some_iff.1 hf).1
 have hj':=(List.getElem?_eq_some_iff.1 hj).1
 refine((List.getElem?_inj (l:=d.files.map fun f=>f.name.toList) (by simpa using hi) hn).1 ?_).symm
 rw[List.getElem?_map,List.getElem?_map,hf,hj]
 simp[e]
theorem nM [Tab] {d:Dk} (hu:d.down=false) (hc:d.crash=none) {n:ByteArray} {i:Nat} {f:Fl} (hx:d.idx n=some i) (hf:d.files[i]?=some f) {k:Nat} {b:List UInt8} (hb:b.length=512) (hk:k≤f.ao.length) (hq:k=f.ao.length→d.used<d.quota):
  ∃d',d.write n k b=(d',0)∧d'.down=false∧d'.crash=none∧d'.quota=d.quota∧d'.files=d.files.modify i (fun f=>{f with log:=f.log++[⟨d.next,k,⟨b,hb⟩⟩]})∧d'.used=d.used+(if k=f.ao.length then 1 else 0):=by
 have hch:d.change=({d with ops:=fT (d.ops+1)},0):=by unfold Dk.change;rw[hc]
 have hfi:d.file i=f:=Dk.ez hf
 have e:d.write n k b=d.step fun t=>(t.po i ⟨t.next,k,⟨b,hb⟩⟩).j6 (max t.most (t.po i ⟨t.next,k,⟨b,hb⟩⟩).used):=by
  unfold Dk.write
  rw[if_neg (by rw[hu];simp),dif_pos hb,hx]
  simp only[hfi]
  rw[if_neg (by omega),if_neg (by rintro⟨q1,q2⟩;have:=hq (by omega);omega),Int.toNat_natCast]
 have hstep:∀F:Dk→Dk,d.step F=(F {d with ops:=fT (d.ops+1)},0):=fun F=>by unfold Dk.step;rw[hch,if_pos rfl]
 rw[e,hstep]
 refine⟨_,rfl,hu,hc,rfl,rfl,?_⟩
 have hp:({f with log:=f.log++[⟨d.next,k,⟨b,hb⟩⟩]}:Fl).ao.length=max f.ao.length (k+1):=by rw[Fl.eV];exact gV _ _
 have hs:((d.files.modify i (fun f=>{f with log:=f.log++[⟨d.next,k,⟨b,hb⟩⟩]})).map (fun f:Fl=>f.ao.length)).sum+f.ao.length=(d.files.map (fun f:Fl=>f.ao.length)).sum+max f.ao.length (k+1):=by
  rw[←hp];exact eX (fun f:Fl=>f.ao.length) _ d.files i f hf
 show ((d.files.modify i (fun f=>{f with log:=f.log++[⟨d.next,k,⟨b,hb⟩⟩]})).map (fun f:Fl=>f.ao.length)).sum=(d.files.map (fun f:Fl=>f.ao.length)).sum+(if k=f.ao.length then 1 else 0)
 generalize ((d.files.modify i (fun f=>{f with log:=f.log++[⟨d.next,k,⟨b,hb⟩⟩]})).map (fun f:Fl=>f.ao.length)).sum=S at*
 generalize (d.files.map (fun f:Fl=>f.ao.length)).sum=S0 at*
 split
 ·omega
 ·omega
section
variable {p p':Pl} {M:bI} {Q U:Nat} {n:ByteArray} {x:St}
theorem aN.at [Tab] (h:aN p M Q U) (hM:M n=some x):∃(i:Nat) (f:Fl),p.d.idx n=some i∧p.d.files[i]?=some f∧f.name=n∧f.ao.length=x.N∧∀(k:Nat) (b:Pg),f.ao[k]?=some b→Cl p.fs n k→fW b.1=some (x.T k):=by
 obtain⟨i,f,h1,h2⟩:=h.there n x hM
 subst h2
 obtain⟨y,y1,y2,y3⟩:=h.file i f h1
 rw[hM] at y1
 cases y1
 exact⟨i,f,vX h.nodup h1,h1,rfl,y2,y3⟩
theorem aN.len [Tab] (h:aN p M Q U) (hM:M n=some x):p.d.len n=(x.N,0):=by
 obtain⟨i,f,h1,h2,h3,h4,_⟩:=h.at hM
 unfold Dk.len Dk.open
 rw[if_neg (by rw[h.up];simp),h1]
 simp only[Dk.ez h2,h4]
theorem aN.KI [Tab] (h:aN p M Q U) (hd:p'.d=p.d) (hw:p'.wrong=p.wrong) (hm:∀g∈p'.fs,∃x,M g.name=some x∧g.page<x.N∧x.T g.page=(g.kind,g.b)) (hc:∀n k,Cl p'.fs n k→Cl p.fs n k):aN p' M Q U:=
 ⟨by rw[hw];exact h.wrong,by rw[hd];exact h.up,by rw[hd];exact h.calm,by rw[hd];exact h.quota,by rw[hd];exact h.used,by rw[hd];exact h.nodup,fun i f hf=>by
  rw[hd] at hf
  obtain⟨x,a,b,c⟩:=h.file i f hf
  exact⟨x,a,b,fun k b hk hcl=>c k b hk (hc _ _ hcl)⟩,fun n x hx=>by rw[hd];exact h.there n x hx,hm⟩
theorem aN.put [Tab] (h:aN p M Q U) (hw:p.WF) {i:Nat} {g:Fr} (hg:p.fs[i]?=some g):
  (p.put i).2=0∧(p.put i).1.fs=p.fs.modify i Fr.clean∧aN (p.put i).1 M Q U:=by
 have hgm:=List.mem_of_getElem? hg
 obtain⟨x,h1,h2,h3⟩:=h.mine g hgm
 have hb:=hw.room g hgm
 have hs:g.fV.length=512:=jY hb
 obtain⟨j,f,a1,a2,a3,a4,a5⟩:=h.at h1
 obtain⟨d',w1,w2,w3,w4,w5,w6⟩:=nM h.up h.calm a1 a2 (k:=g.page) hs (by omega) (by omega)
 have e:p.put i=((p.bF d').dX i Fr.clean,0):=by
  unfold Pl.put;rw[Pl.fI hg,w1,if_pos rfl]
 rw[e]
 have hcl:∀m k,(m≠g.name∨k≠g.page)→Cl (p.fs.modify i Fr.clean) m k→Cl p.fs m k:=by
  intro m k hne hc g' hg' e1 e2
  obtain⟨j',hj'⟩:=List.mem_iff_getElem?.1 hg'
  by_cases q:i=j'
  ·subst q
   rw[hg] at hj';cases hj'
   rcases hne with u|u
   ·exact absurd e1.symm u
   ·exact absurd e2.symm u
  ·exact hc g' (List.mem_of_getElem? (by rw[aX q];exact hj')) e1 e2
 refine⟨rfl,rfl,h.wrong,w2,w3,w4.trans h.quota,?_,?_,fun j' f' hf'=>?_,fun m y hy=>?_,fun g' hg'=>?_⟩
 ·show d'.used=U
  rw[w6,if_neg (by omega),h.used,Nat.add_zero]
 ·show (d'.files.map _).Nodup
  rw[w5,cM (fun f:Fl=>f.name.toList) (fun f=>{f with log:=f.log++[⟨p.d.next,g.page,⟨g.fV,hs⟩⟩]}) (fun _=>rfl)]
  exact h.nodup
 ·have hf':d'.files[j']?=some f':=hf'
  rw[w5] at hf'
  by_cases q:j=j'
  ·subst q
   rw[bh a2] at hf'
   cases hf'
   refine⟨x,by show M f.name=_;rw[a3];exact h1,?_,fun k b hk hc=>?_⟩
   ·rw[Fl.eV]
    show (putAt f.ao g.page ⟨g.fV,hs⟩).length=_
    rw[mP];omega
   ·rw[Fl.eV] at hk
    have hk:(putAt f.ao g.page ⟨g.fV,hs⟩)[k]?=some b:=hk
    rw[uM (by omega)] at hk
    split at hk
    ·rename_i ek;cases hk;subst ek
     rw[h3];exact pW hb
    ·rename_i ek
     exact a5 k b hk (hcl g.name k (.inr ek) (by rw[←a3];exact hc))
  ·rw[aX q] at hf'
   obtain⟨y,b1,b2,b3⟩:=h.file j' f' hf'
   refine⟨y,b1,b2,fun k b hk hc=>b3 k b hk (hcl _ k (.inl fun e=>q ?_) hc)⟩
   have:=vX h.nodup hf'
   rw[e,a1] at this
   exact Option.some.inj this
 ·obtain⟨j',f',b1,b2⟩:=h.there m y hy
  show ∃(i:Nat) (f:Fl),d'.files[i]?=some f∧f.name=m
  rw[w5]
  by_cases q:j=j'
  ·subst q
   exact⟨j,_,bh b1,b2⟩
  ·exact⟨j',f',by rw[aX q];exact b1,b2⟩
 ·have hg':g'∈p.fs.modify i Fr.clean:=hg'
  rcases mem_modify hg hg' with r|r
  ·exact h.mine g' r
  ·subst r;exact h.mine g hgm
theorem aN.erase [Tab] (h:aN p M Q U) {i:Nat} {g:Fr} (hg:p.fs[i]?=some g) (hd:g.dirty=false):aN (p.drop i) M Q U:=by
 refine h.KI rfl rfl (fun g' hg'=>h.mine g' (List.mem_of_mem_eraseIdx hg')) fun m k hc g' hg' e1 e2=>?_
 obtain⟨j,hj⟩:=List.mem_iff_getElem?.1 hg'
 by_cases e:j=i
 ·subst e;rw[hg] at hj;cases hj;exact hd
 ·exact hc g' (mem_erase.2 ⟨j,e,hj⟩) e1 e2
theorem aN.make [Tab] (h:aN p M Q U) (hw:p.WF) (hl:¬p.fs.length<p.most) {g:Fr} (hg:g∈p.fs) (hgp:g.pins=[]):
  ∃i f,p.fs[i]?=some f∧f.pins=[]∧p.room.2=0∧p.room.1.fs=p.fs.eraseIdx i∧aN p.room.1 M Q U:=by
 cases hb:p.kT with
 |none=>exact absurd hgp (Pl.ui hb g hg)
 |some i=>
   obtain⟨f,h1,h2,_⟩:=Pl.jJ hb
   have e:p.room=if (p.frame i).dirty then (if (p.put i).2=0 then ((p.put i).1.drop i,0) else p.put i) else (p.drop i,0):=by
    unfold Pl.room;rw[if_neg hl,hb]
   rw[e,Pl.fI h1]
   cases hd:f.dirty with
   |true=>
     obtain⟨w1,w2,w4⟩:=h.put hw h1
     rw[if_pos rfl,if_pos w1]
     refine⟨i,f,h1,h2,rfl,?_,w4.erase (g:=f.clean) (by rw[w2];exact bh h1) rfl⟩
     show (p.put i).1.fs.eraseIdx i=_
     rw[w2,nQ]
   |false=>
     rw[if_neg (by simp)]
     exact⟨i,f,h1,h2,rfl,rfl,h.erase h1 hd⟩
theorem aN.roomy [Tab] (h:aN p M Q U) (hw:p.WF) (hg:p.fs.length<p.most∨∃g∈p.fs,g.pins=[]):
  p.room.2=0∧aN p.room.1 M Q U∧(∀g∈p.room.1.fs,g∈p.fs)∧(∀g∈p.fs,g.pins≠[]→g∈p.room.1.fs):=by
 by_cases hl:p.fs.length<p.most
 ·rw[Pl.BT hl];exact⟨rfl,h,fun _ q=>q,fun _ q _=>q⟩
 ·obtain⟨g,hgm,hgp⟩:=hg.resolve_left hl
  obtain⟨i,f,h1,h2,h3,h4,h5⟩:=h.make hw hl hgm hgp
  refine⟨h3,h5,fun x hx=>by rw[h4] at hx;exact List.mem_of_mem_eraseIdx hx,fun x hx hxp=>?_⟩
  rw[h4]
  obtain⟨j,hj⟩:=List.mem_iff_getElem?.1 hx
  refine mem_erase.2 ⟨j,?_,hj⟩
  rintro rfl
  rw[h1] at hj;cases hj;exact hxp h2
theorem aN.take [Tab] (h:aN p M Q U) {f:Fr} (hM:M f.name=some x) (hp:f.page<x.N) (hT:x.T f.page=(f.kind,f.b)):aN (p.take f) M Q U:=by
 refine h.KI rfl rfl (fun g hg=>?_) fun m k hc g hg e1 e2=>hc g (by rw[Pl.qE];exact List.mem_append_left _ hg) e1 e2
 rw[Pl.qE] at hg
 rcases List.mem_append.1 hg with r|r
 ·exact h.mine g r
 ·simp at r;subst r;exact⟨x,hM,hp,hT⟩
end
theorem oP {d:Dk} (hc:d.crash=none):d.change=({d with ops:=fT (d.ops+1)},0):=by unfold Dk.change;rw[hc]
section
variable {p p':Pl} {M:bI} {Q U:Nat} {n:ByteArray} {x:St}
theorem aN.fresh [Tab] (h:aN p M Q U) (hM:M n=some x) (hw:p.WF) (hg:p.fs.length<p.most∨∃g∈p.fs,g.pins=[]) (hN:U<Q):
  (p.fresh n).2=(p.next,(x.N:Int),0)∧(p.fresh n).1.fs=p.room.1.fs++[⟨n,x.N,0,[],false,[p.next],0⟩]∧(p.fresh n).1.next=fT (p.next+1)∧(p.fresh n).1.most=p.most∧(p.fresh n).1.tick=p.tick∧
  aN (p.fresh n).1 (jz M n (some ⟨x.N+1,gh x.T x.N (0,[])⟩)) Q (U+1)∧(x.N<1048577→n.size≤9223372036854775807→p.next<9223372036854775807→(p.fresh n).1.WF):=by
 obtain⟨h1,h2,h3,_⟩:=h.roomy hw hg
 have hs:(cc 0 []).length=512:=jY (by simp)
 obtain⟨j,f,a1,a2,a3,a4,a5⟩:=h2.at hM
 obtain⟨d',w1,w2,w3,w4,w5,w6⟩:=nM h2.up h2.calm a1 a2 (k:=x.N) hs (by omega) (by rw[h2.used,h2.quota];omega)
 have hrs:=p.cr
 have hlen:=h.len hM
 have e:p.fresh n=((p.room.1.bF d').take ⟨n,x.N,0,[],false,[],0⟩,p.room.1.next,(x.N:Int),0):=by
  unfold Pl.fresh
  rw[if_neg (by rw[h.wrong];simp),hlen]
  simp only
  rw[if_neg (by simp),if_neg (by rw[h1];simp),if_neg (by rw[w1];simp),w1]
 rw[e]
 have hnx:(p.room.1.bF d').next=p.next:=hrs.2.1
 have nocl:∀g∈p.room.1.fs,g.name=n→g.page<x.N:=fun g hg hgn=>by
  obtain⟨y,b1,b2,_⟩:=h2.mine g hg
  rw[hgn,hM] at b1;cases b1;exact b2
 have ht:aN (p.room.1.bF d') (jz M n (some ⟨x.N+1,gh x.T x.N (0,[])⟩)) Q (U+1):=by
  refine⟨h2.wrong,w2,w3,w4.trans h2.quota,?_,?_,fun j' f' hf'=>?_,fun m y hy=>?_,fun g hgm=>?_⟩
  ·show d'.used=U+1
   rw[w6,if_pos a4.symm,h2.used]
  ·show (d'.files.map _).Nodup
   rw[w5,cM (fun f:Fl=>f.name.toList) (fun f=>{f with log:=f.log++[⟨p.room.1.d.next,x.N,⟨cc 0 [],hs⟩⟩]}) (fun _=>rfl)]
   exact h2.nodup
  ·have hf':d'.files[j']?=some f':=hf'
   rw[w5] at hf'
   by_cases q:j=j'
   ·subst q
    rw[bh a2] at hf'
    cases hf'
    refine⟨_,by show jz M n _ f.name=_;rw[a3,bm],?_,fun k b hk hc=>?_⟩
    ·rw[Fl.eV]
     show (putAt f.ao x.N ⟨cc 0 [],hs⟩).length=x.N+1
     rw[mP];omega
    ·rw[Fl.eV] at hk
     have hk:(putAt f.ao x.N ⟨cc 0 [],hs⟩)[k]?=some b:=hk
     rw[uM (by omega)] at hk
     show fW b.1=some (gh x.T x.N (0,[]) k)
     split at hk
     ·rename_i ek;cases hk;subst ek
      rw[dJ];exact pW (by simp)
     ·rename_i ek
      rw[cK ek]
      exact a5 k b hk (by rw[←a3];exact hc)
   ·rw[aX q] at hf'
    obtain⟨y,b1,b2,b3⟩:=h2.file j' f' hf'
    have hne:f'.name≠n:=fun e=>q (by
     have:=vX h2.nodup hf'
     rw[e,a1] at this
     exact Option.some.inj this)
    exact⟨y,by rw[aK hne];exact b1,b2,b3⟩
  ·have key:∀m y,M m=some y→∃(i:Nat) (f:Fl),d'.files[i]?=some f∧f.name=m:=fun m y hy=>by
    obtain⟨j',f',b1,b2⟩:=h2.there m y hy
    rw[w5]
    by_cases q:j=j'
    ·subst q
     exact⟨j,_,bh b1,b2⟩
    ·exact⟨j',f',by rw[aX q];exact b1,b2⟩
   by_cases q:m=n
   ·subst q;exact key m x hM
   ·rw[aK q] at hy
    exact key m y hy
  ·have hgm:g∈p.room.1.fs:=hgm
   obtain⟨y,b1,b2,b3⟩:=h2.mine g hgm
   by_cases q:g.name=n
   ·rw[q,hM] at b1;cases b1
    exact⟨_,by rw[q,bm],by show g.page<x.N+1;omega,by show gh x.T x.N (0,[]) g.page=_;rw[cK (by omega)];exact b3⟩
   ·exact⟨y,by rw[aK q];exact b1,b2,b3⟩
 refine⟨by rw[hrs.2.1],?_,?_,hrs.1,hrs.2.2.1,ht.take (f:=⟨n,x.N,0,[],false,[],0⟩) (bm _ _ _) (Nat.lt_succ_self _) (dJ _ _ _),fun hb hsz hx=>?_⟩
 ·rw[Pl.qE,hnx];rfl
 ·show fT ((p.room.1.bF d').next+1)=_
  rw[hnx]
 ·obtain⟨v1,v2⟩:=hw.vZ
  have hno:p.room.1.find n (x.N:Int)=none:=Pl.ke fun g hg hgn=>by have:=nocl g hg hgn;omega
  exact(v1.bF _).take (by show p.room.1.fs.length<p.room.1.most;rw[hrs.1];exact v2 h1) (by show p.room.1.next<_;rw[hrs.2.1];exact hx) hno (by simp) hb hsz rfl rfl
theorem aN.dX [Tab] (h:aN p M Q U) {i:Nat} {f:Fr} {u:Fr→Fr} (hf:p.fs[i]?=some f) (hd:p'.d=p.d) (hw:p'.wrong=p.wrong) (hfs:p'.fs=p.fs.modify i u)
  (hu:(u f).name=f.name∧(u f).page=f.page∧(u f).kind=f.kind∧(u f).b=f.b∧(u f).dirty=f.dirty):aN p' M Q U:=by
 obtain⟨u1,u2,u3,u4,u5⟩:=hu
 refine h.KI hd hw (fun g hg=>?_) fun m k hc g hg e1 e2=>?_
 ·rw[hfs] at hg
  rcases mem_modify hf hg with r|r
  ·exact h.mine g r
  ·subst r;rw[u1,u2,u3,u4];exact h.mine f (List.mem_of_getElem? hf)
 ·obtain⟨j,hj⟩:=List.mem_iff_getElem?.1 hg
  by_cases e:i=j
  ·subst e
   rw[hf] at hj;cases hj
   rw[←u5]
   exact hc (u f) (by rw[hfs];exact List.mem_of_getElem? (bh hf)) (by rw[u1];exact e1) (by rw[u2];exact e2)
  ·exact hc g (by rw[hfs];exact List.mem_of_getElem? (by rw[aX e];exact hj)) e1 e2
theorem aN.Jn [Tab] (h:aN p M Q U) {k:Nat} {i:Nat} {f:Fr} (hi:p.find n k=some i) (hf:p.fs[i]?=some f):
  p.bn n k=(p.ir i,p.next,0)∧aN (p.ir i) M Q U:=by
 refine⟨?_,h.dX hf rfl rfl rfl ⟨rfl,rfl,rfl,rfl,rfl⟩⟩
 unfold Pl.bn
 rw[if_neg (by rw[h.wrong];simp),hi]
theorem aN.FL [Tab] (h:aN p M Q U) (hM:M n=some x) (hw:p.WF) {k:Nat} (hi:p.find n k=none) (hk:k<x.N) (hg:p.fs.length<p.most∨∃g∈p.fs,g.pins=[]):
  (p.bn n k).2=(p.next,0)∧(p.bn n k).1.fs=p.room.1.fs++[⟨n,k,(x.T k).1,(x.T k).2,false,[p.next],0⟩]∧(p.bn n k).1.next=fT (p.next+1)∧(p.bn n k).1.most=p.most∧aN (p.bn n k).1 M Q U∧
  (x.N≤1048576→n.size≤9223372036854775807→p.next<9223372036854775807→(p.bn n k).1.WF):=by
 obtain⟨h1,h2,h3,_⟩:=h.roomy hw hg
 have hrs:=p.cr
 have hlen:=h.len hM
 have hno:∀g∈p.room.1.fs,g.name=n→g.page≠k:=fun g hgm hgn e=>Pl.jI hi g (h3 g hgm) hgn (by omega)
 obtain⟨j,f,a1,a2,a3,a4,a5⟩:=h2.at hM
 obtain⟨b,hb⟩:∃b,f.ao[k]?=some b:=⟨_,List.getElem?_eq_getElem (by omega)⟩
 have ho:=a5 k b hb fun g hgm hgn e=>absurd e (hno g hgm hgn)
 have hrd:p.room.1.d.read n k=(b.1,0):=by
  unfold Dk.read Dk.open
  rw[if_neg (by rw[h2.up];simp),a1]
  simp only[Dk.ez a2]
  rw[if_neg (by omega),Int.toNat_natCast,hb]
 have el:p.load n k=(p.room.1,some ⟨n,k,(x.T k).1,(x.T k).2,false,[],0⟩,0):=by
  unfold Pl.load
  rw[hlen]
  simp only
  rw[if_neg (by simp),if_neg (by omega),if_neg (by rw[h1];simp),hrd]
  simp only
  rw[if_neg (by simp),ho]
  simp
 have e:p.bn n k=(p.room.1.take ⟨n,k,(x.T k).1,(x.T k).2,false,[],0⟩,p.room.1.next,0):=by
  unfold Pl.bn
  rw[if_neg (by rw[h.wrong];simp),hi,el]
 rw[e]
 refine⟨by rw[hrs.2.1],?_,?_,hrs.1,h2.take (f:=⟨n,k,(x.T k).1,(x.T k).2,false,[],0⟩) hM hk rfl,fun hN hsz hx=>?_⟩
 ·rw[Pl.qE,hrs.2.1];rfl
 ·show fT (p.room.1.next+1)=_
  rw[hrs.2.1]
 ·obtain⟨v1,v2⟩:=hw.vZ
  have hfind:p.room.1.find n (k:Int)=none:=Pl.ke fun g hg hgn=>by have:=hno g hg hgn;omega
  exact v1.take (by rw[hrs.1];exact v2 h1) (by rw[hrs.2.1];omega) hfind (zK ho) (by simp only;omega) hsz rfl rfl
theorem aN.get [Tab] (h:aN p M Q U) (hw:p.WF) {f:Fr} {c:Int} (hf:f∈p.fs) (hM:M f.name=some x) (hx:c∈f.pins):p.get c=((x.T f.page).1,(x.T f.page).2,0):=by
 obtain⟨i,hi⟩:=List.mem_iff_getElem?.1 hf
 obtain⟨y,b1,b2,b3⟩:=h.mine f hf
 rw[hM] at b1;cases b1
 unfold Pl.get
 rw[if_neg (by rw[h.wrong];simp),Pl.qC hw hi hx]
 simp only[Pl.fI hi,b3]
theorem aN.set [Tab] (h:aN p M Q U) (hw:p.WF) {i:Nat} {f:Fr} {c:Int} (hf:p.fs[i]?=some f) (hM:M f.name=some x) (hx:c∈f.pins) {k:UInt8} {b:List UInt8} (hb:b.length≤504):
  p.set c k b=(p.dX i (Fr.set k b),0)∧aN (p.dX i (Fr.set k b)) (jz M f.name (some {x with T:=gh x.T f.page (k,b)})) Q U:=by
 constructor
 ·unfold Pl.set
  rw[if_neg (by rw[h.wrong];simp),Pl.qC hw hf hx]
  simp only
  rw[if_neg (by omega)]
 ·have hcl:∀m j,(m≠f.name∨j≠f.page)→Cl (p.fs.modify i (Fr.set k b)) m j→Cl p.fs m j:=by
   intro m j hne hc g hg e1 e2
   obtain⟨a,ha⟩:=List.mem_iff_getElem?.1 hg
   by_cases q:i=a
   ·subst q
    rw[hf] at ha;cases ha
    rcases hne with u|u
    ·exact absurd e1.symm u
    ·exact absurd e2.symm u
   ·exact hc g (List.mem_of_getElem? (by rw[aX q];exact ha)) e1 e2
  refine⟨h.wrong,h.up,h.calm,h.quota,h.used,h.nodup,fun j g hg=>?_,fun m y hy=>?_,fun g hg=>?_⟩
  ·obtain⟨y,b1,b2,b3⟩:=h.file j g hg
   by_cases q:g.name=f.name
   ·rw[q,hM] at b1;cases b1
    refine⟨{x with T:=gh x.T f.page (k,b)},by rw[q,bm],b2,fun a c hc hcc=>?_⟩
    show fW c.1=some (gh x.T f.page (k,b) a)
    by_cases e:a=f.page
    ·subst e
     have:=hcc (Fr.set k b f) (List.mem_of_getElem? (bh hf)) q.symm rfl
     cases this
    ·rw[cK e]
     exact b3 a c hc (hcl _ _ (.inr e) hcc)
   ·exact⟨y,by rw[aK q];exact b1,b2,fun a c hc hcc=>b3 a c hc (hcl _ _ (.inl q) hcc)⟩
  ·by_cases q:m=f.name
   ·subst q;exact h.there _ x hM
   ·rw[aK q] at hy;exact h.there m y hy
  ·have hg:g∈p.fs.modify i (Fr.set k b):=hg
   rw[bP hf] at hg
   rcases jE hg with ⟨j,hji,hj⟩|r
   ·obtain⟨y,b1,b2,b3⟩:=h.mine g (List.mem_of_getElem? hj)
    by_cases q:g.name=f.name
    ·rw[q,hM] at b1;cases b1
     have hne:g.page≠f.page:=fun e=>hji (key_inj hw.keys hj hf q e)
     exact⟨{x with T:=gh x.T f.page (k,b)},by rw[q,bm],b2,by show gh x.T f.page (k,b) g.page=_;rw[cK hne];exact b3⟩
    ·exact⟨y,by rw[aK q];exact b1,b2,b3⟩
   ·subst r
    obtain⟨y,b1,b2,_⟩:=h.mine f (List.mem_of_getElem? hf)
    rw[hM] at b1;cases b1
    exact⟨_,bm _ _ _,b2,dJ _ _ _⟩
theorem aN.aQ [Tab] (h:aN p M Q U) (hw:p.WF) {i:Nat} {f:Fr} {c:Int} (hf:p.fs[i]?=some f) (hx:c∈f.pins):
  p.aQ c=({p with fs:=p.fs.modify i (Fr.aQ c (fT (p.tick+1))),tick:=fT (p.tick+1)},0)∧aN (p.aQ c).1 M Q U:=by
 have e:p.aQ c=({p with fs:=p.fs.modify i (Fr.aQ c (fT (p.tick+1))),tick:=fT (p.tick+1)},0):=by
  unfold Pl.aQ
  rw[if_neg (by rw[h.wrong];simp),Pl.qC hw hf hx]
 refine⟨e,?_⟩
 rw[e]
 exact h.dX hf rfl rfl rfl ⟨rfl,rfl,rfl,rfl,rfl⟩
theorem aN.create [Tab] (h:aN p M Q U) (hM:M n=none) (hn:named n=true) (hl:p.d.files.length<4096) (T0:Nat→UInt8×List UInt8):
  (p.d.create n).2=0∧aN (p.bF (p.d.create n).1) (jz M n (some ⟨0,T0⟩)) Q U∧(p.d.create n).1.files.length=p.d.files.length+1∧(p.d.create n).1.aH=p.d.aH:=by
 have hx:p.d.idx n=none:=by
  unfold Dk.idx
  rw[List.findIdx?_eq_none_iff]
  intro f hf
  obtain⟨i,hi⟩:=List.mem_iff_getElem?.1 hf
  obtain⟨x,a,_⟩:=h.file i f hi
  have:¬f.name.toList=n.toList:=fun q=>by
   have e:f.name=n:=jj q
   rw[e,hM] at a;cases a
  simpa using this
 have hch:=oP h.calm
 have e:p.d.create n=({p.d with files:=p.d.files++[⟨n,[],[]⟩],ops:=fT (p.d.ops+1)},0):=by
  unfold Dk.create
  rw[if_neg (by rw[h.up];simp),if_neg (by rw[hn];simp),if_neg (by rw[hx];simp),if_neg (by omega)]
  unfold Dk.step
  rw[hch,if_pos rfl]
 rw[e]
 have hne:∀f∈p.d.files,f.name≠n:=fun f hf q=>by
  obtain⟨i,hi⟩:=List.mem_iff_getElem?.1 hf
  obtain⟨x,a,_⟩:=h.file i f hi
  rw[q,hM] at a;cases a
 have hnx:∀m x,M m=some x→m≠n:=fun m x hx2 q=>by subst q;rw[hM] at hx2;cases hx2
 refine⟨rfl,⟨h.wrong,h.up,h.calm,h.quota,?_,?_,fun i f hf=>?_,fun m y hy=>?_,fun g hg=>?_⟩,by simp,by simp[Dk.aH]⟩
 ·have:=h.used
  show ((p.d.files++[(⟨n,[],[]⟩:Fl)]).map fun f:Fl=>f.ao.length).sum=U
  unfold Dk.used at this
  rw[List.map_append,List.sum_append,this]
  simp[Fl.ao]
 ·show ((p.d.files++[(⟨n,[],[]⟩:Fl)]).map fun f:Fl=>f.name.toList).Nodup
  rw[List.map_append,List.nodup_append]
  refine⟨h.nodup,by simp,fun a ha b hb=>?_⟩
  obtain⟨f,hf,rfl⟩:=List.mem_map.1 ha
  have hb:b=n.toList:=by simpa using hb
  rw[hb]
  exact fun q=>hne f hf (jj q)
 ·have hf:(p.d.files++[(⟨n,[],[]⟩:Fl)])[i]?=some f:=hf
  rw[List.getElem?_append] at hf
  split at hf
  ·obtain⟨x,a,b,c⟩:=h.file i f hf
   exact⟨x,by rw[aK (hne f (List.mem_of_getElem? hf))];exact a,b,c⟩
  ·have:i - p.d.files.length=0:=by
    have:=(List.getElem?_eq_some_iff.1 hf).1
    simp at this;omega
   rw[this] at hf
   have hf:f=⟨n,[],[]⟩:=by simpa using hf.symm
   subst hf
   exact⟨_,bm _ _ _,rfl,fun k b hk=>by simp[Fl.ao] at hk⟩
 ·show ∃(i:Nat) (f:Fl),(p.d.files++[(⟨n,[],[]⟩:Fl)])[i]?=some f∧f.name=m
  by_cases q:m=n
  ·subst q
   exact⟨p.d.files.length,⟨m,[],[]⟩,by simp,rfl⟩
  ·rw[aK q] at hy
   obtain⟨i,f,a,b⟩:=h.there m y hy
   exact⟨i,f,by rw[List.getElem?_append_left (List.getElem?_eq_some_iff.1 a).1];exact a,b⟩
 ·obtain⟨y,a,b⟩:=h.mine g hg
  exact⟨y,by rw[aK (hnx _ _ a)];exact a,b⟩
end
structure aO [Tab] (p:Pl) (M:bI) (Q U:Nat):Prop where
 told:aN p M Q U
 wf:p.WF
 free:∀f∈p.fs,f.pins=[]
section
variable {p:Pl} {M:bI} {Q U:Nat} {n:ByteArray} {x:St}
theorem aO.roomy [Tab] (h:aO p M Q U):p.fs.length<p.most∨∃g∈p.fs,g.pins=[]:=by
 by_cases hl:p.fs.length<p.most
 ·exact .inl hl
 ·right
  have:=h.wf.most
  match hf:p.fs with
  |[]=>rw[hf] at hl;simp at hl;omega
  |f::_=>exact⟨f,List.mem_cons_self,h.free f (by rw[hf];exact List.mem_cons_self)⟩
theorem aO.Gy [Tab] (hw:p.WF) (t:aN p M Q U) {i:Nat} {f:Fr} {c:Int} (hf:p.fs[i]?=some f) (hx:f.pins=[c]) (hl:∀j g,j≠i→p.fs[j]?=some g→g.pins=[]) (hn:p.next<9223372036854775807):
  (p.aQ c).2=0∧aO (p.aQ c).1 M Q U∧(p.aQ c).1.next=p.next∧(p.aQ c).1.most=p.most:=by
 obtain⟨u1,u2⟩:=t.aQ hw hf (c:=c) (by rw[hx];simp)
 refine⟨by rw[u1],⟨u2,hw.aQ c hn,?_⟩,by rw[u1],by rw[u1]⟩
 rw[u1]
 intro g hg
 obtain⟨j,hj⟩:=List.mem_iff_getElem?.1 hg
 have hj:(p.fs.modify i (Fr.aQ c (fT (p.tick+1))))[j]?=some g:=hj
 by_cases e:i=j
 ·subst e
  rw[bh hf] at hj
  cases hj;simp[Fr.aQ,hx]
 ·rw[aX e] at hj
  exact hl j g (fun q=>e q.symm) hj
theorem lk {l:List Fr} {f:Fr} {fs:List Fr} (hf:fs=l++[f]) (hl:∀g∈l,g.pins=[]):fs[l.length]?=some f∧∀j g,j≠l.length→fs[j]?=some g→g.pins=[]:=by
 subst hf
 refine⟨by simp,fun j g hj hg=>?_⟩
 rcases Nat.lt_or_ge j l.length with hlt|hge
 ·rw[List.getElem?_append_left hlt] at hg
  exact hl g (List.mem_of_getElem? hg)
 ·rw[List.getElem?_append_right hge] at hg
  obtain⟨m,hm⟩:∃m,j - l.length=m+1:=⟨j - l.length - 1,by omega⟩
  rw[hm] at hg;simp at hg
theorem aO.more [Tab] (h:aO p M Q U) (hM:M n=some x) (hN:U<Q) (hb0:x.N<1048577) (hs:n.size≤9223372036854775807) (h0:0≤p.next) (h1:p.next<1099511627776) {k:UInt8} {b:List UInt8} (hb:b.length≤504) (hk:k≠0):
  (p.more n k b).2=0∧(p.fresh n).2.2.1=x.N∧aO (p.more n k b).1 (jz M n (some ⟨x.N+1,gh x.T x.N (k,b)⟩)) Q (U+1)∧(p.more n k b).1.next=p.next+1∧(p.more n k b).1.most=p.most:=by
 obtain⟨r1,r2,r3,r4,_,r6,r7⟩:=h.told.fresh hM h.wf h.roomy hN
 obtain⟨_,_,hsub,_⟩:=h.told.roomy h.wf h.roomy
 have hfree:∀g∈p.room.1.fs,g.pins=[]:=fun g hg=>h.free g (hsub g hg)
 have hnx:(p.fresh n).1.next=p.next+1:=by rw[r3];exact sG h0 h1
 have hwf:(p.fresh n).1.WF:=r7 hb0 hs (by omega)
 generalize p.room.1.fs=l at r2 hfree
 unfold Pl.more
 rw[r1]
 generalize (p.fresh n).1=s at*
 simp only
 rw[if_neg (by simp),if_neg hk]
 obtain⟨hi,hl⟩:=lk r2 hfree
 obtain⟨s1,s2⟩:=r6.set hwf hi (c:=p.next) (k:=k) (b:=b) (bm _ _ _) (by simp) hb
 have hw2:=hwf.set p.next k b
 rw[s1] at hw2 ⊢
 have e2:(s.dX l.length (Fr.set k b)).fs=l++[⟨n,x.N,k,b,true,[p.next],0⟩]:=by
  show s.fs.modify _ _=_
  rw[r2,qa];rfl
 have et:gh (gh x.T x.N (0,[])) x.N (k,b)=gh x.T x.N (k,b):=by
  funext j
  by_cases e:j=x.N
  ·subst e;rw[dJ,dJ]
  ·rw[cK e,cK e,cK e]
 rw[EA] at s2
 have s2':aN (s.dX l.length (Fr.set k b)) (jz M n (some ⟨x.N+1,gh (gh x.T x.N (0,[])) x.N (k,b)⟩)) Q (U+1):=s2
 rw[et] at s2'
 obtain⟨i2,l2⟩:=lk e2 hfree
 obtain⟨b1,b2,b3,b4⟩:=aO.Gy (c:=p.next) hw2 s2' i2 rfl l2 (by show s.next<_;omega)
 exact⟨b1,by first|trivial|rfl,b2,b3.trans hnx,b4.trans r4⟩
theorem aO.bn [Tab] (h:aO p M Q U) (hM:M n=some x) (hb0:x.N≤1048576) (hs:n.size≤9223372036854775807) (h0:0≤p.next) (h1:p.next<1099511627776) {k:Nat} (hk:k<x.N):
  (p.bn n k).2=(p.next,0)∧(p.bn n k).1.WF∧aN (p.bn n k).1 M Q U∧(p.bn n k).1.next=p.next+1∧(p.bn n k).1.most=p.most∧
  ∃(i:Nat) (f:Fr),(p.bn n k).1.fs[i]?=some f∧f.pins=[p.next]∧f.name=n∧f.page=k∧∀j g,j≠i→(p.bn n k).1.fs[j]?=some g→g.pins=[]:=by
 have t:=h.told
 have hnx:fT (p.next+1)=p.next+1:=sG h0 h1
 cases hi:p.find n (k:Int) with
 |some i=>
   obtain⟨f,hf,hfn,hfk⟩:=Pl.lq hi
   obtain⟨r1,r2⟩:=t.Jn hi hf
   rw[r1]
   refine⟨rfl,h.wf.ir hf (by omega),r2,hnx,rfl,i,Fr.bn p.next f,bh hf,?_,hfn,by show f.page=k;omega,fun j g hj hg=>?_⟩
   ·show f.pins++[p.next]=_
    rw[h.free f (List.mem_of_getElem? hf)];rfl
   ·have hg:(p.fs.modify i (Fr.bn p.next))[j]?=some g:=hg
    rw[aX (fun e=>hj e.symm)] at hg
    exact h.free g (List.mem_of_getElem? hg)
 |none=>
   obtain⟨r1,r2,r3,r4,r5,r6⟩:=t.FL hM h.wf hi hk h.roomy
   obtain⟨_,_,hsub,_⟩:=t.roomy h.wf h.roomy
   obtain⟨i2,l2⟩:=lk r2 fun g hg=>h.free g (hsub g hg)
   exact⟨r1,r6 hb0 hs (by omega),r5,r3.trans hnx,r4,_,_,i2,rfl,rfl,rfl,l2⟩
theorem aO.look [Tab] (h:aO p M Q U) (hM:M n=some x) (hb0:x.N≤1048576) (hs:n.size≤9223372036854775807) (h0:0≤p.next) (h1:p.next<1099511627776) {k:Nat} (hk:k<x.N):
  (p.look n k).2=((x.T k).1,(x.T k).2,0)∧aO (p.look n k).1 M Q U∧(p.look n k).1.next=p.next+1∧(p.look n k).1.most=p.most:=by
 obtain⟨r1,r2,t,r4,r5,i,f,r6,r7,rn,r8,r9⟩:=h.bn hM hb0 hs h0 h1 hk
 unfold Pl.look
 rw[r1]
 generalize (p.bn n k).1=s at*
 have g1:=t.get r2 (c:=p.next) (List.mem_of_getElem? r6) (by rw[rn];exact hM) (by rw[r7];simp)
 obtain⟨b1,b2,b3,b4⟩:=aO.Gy r2 t r6 r7 r9 (by omega)
 simp only
 rw[if_neg (by simp),g1]
 simp only
 rw[if_neg (by simp),b1,r8]
 exact⟨rfl,b2,b3.trans r4,b4.trans r5⟩
theorem aO.mF [Tab] (h:aO p M Q U) (hM:M n=some x) (hb0:x.N≤1048576) (hs:n.size≤9223372036854775807) (h0:0≤p.next) (h1:p.next<1099511627776) {k:Nat} (hk:k<x.N) {kd:UInt8} {b:List UInt8} (hb:b.length≤504):
  (p.mF n (k:Int) kd b).2=0∧aO (p.mF n (k:Int) kd b).1 (jz M n (some {x with T:=gh x.T k (kd,b)})) Q U∧(p.mF n (k:Int) kd b).1.next=p.next+1∧(p.mF n (k:Int) kd b).1.most=p.most:=by
 obtain⟨r1,r2,t,r4,r5,i,f,r6,r7,rn,r8,r9⟩:=h.bn hM hb0 hs h0 h1 hk
 unfold Pl.mF
 rw[r1]
 simp only
 rw[if_neg (by simp)]
 generalize (p.bn n k).1=s at*
 obtain⟨s1,s2⟩:=t.set r2 r6 (c:=p.next) (k:=kd) (b:=b) (by rw[rn];exact hM) (by rw[r7];simp) hb
 have hw2:=r2.set p.next kd b
 rw[s1] at hw2 ⊢
 rw[r8,rn] at s2
 have e1:Pl.leave (s.dX i (Fr.set kd b),0) p.next=(s.dX i (Fr.set kd b)).aQ p.next:=if_pos rfl
 rw[e1]
 have e6:(s.dX i (Fr.set kd b)).fs[i]?=some (Fr.set kd b f):=bh r6
 obtain⟨b1,b2,b3,b4⟩:=aO.Gy (c:=p.next) hw2 s2 e6 (by simpa[Fr.set] using r7) (fun j g hj hg=>r9 j g hj (by
  have hg:(s.fs.modify i (Fr.set kd b))[j]?=some g:=hg
  rw[aX (fun e=>hj e.symm)] at hg;exact hg)) (by show s.next<_;omega)
 exact⟨b1,b2,b3.trans r4,b4.trans r5⟩
end
theorem oQ {α:Type}:∀{A B:List α},A.Nodup→(∀a∈A,a∈B)→A.length≤B.length
 |[],_,_,_=>Nat.zero_le _
 |a::A,B,h,hs=>by
   have ha:=hs a List.mem_cons_self
   obtain⟨C,D,rfl⟩:=List.append_of_mem ha
   obtain⟨h1,h2⟩:=List.nodup_cons.1 h
   have:=oQ (A:=A) (B:=C++D) h2 fun b hb=>by
    have hb2:=hs b (List.mem_cons_of_mem _ hb)
    rcases List.mem_append.1 hb2 with u|u
    ·exact List.mem_append.2 (.inl u)
    ·rcases List.mem_cons.1 u with v|v
     ·subst v;exact absurd hb h1
     ·exact List.mem_append.2 (.inr v)
   simp only[List.length_append,List.length_cons] at this ⊢
   omega
theorem Ah {α:Type} (w:α→Nat):∀{l:List α} {a:α},a∈l→w a≤(l.map w).sum
 |b::l,a,h=>by
   rw[List.map_cons,List.sum_cons]
   rcases List.mem_cons.1 h with u|u
   ·subst u;omega
   ·have:=Ah w u;omega
section
variable {p:Pl} {M:bI} {Q U:Nat} {n:ByteArray} {x:St}
theorem aN.DE [Tab] (h:aN p M Q U) (hM:M n=some x):x.N≤U:=by
 obtain⟨i,f,_,h2,_,h4,_⟩:=h.at hM
 have:=Ah (fun f:Fl=>f.ao.length) (List.mem_of_getElem? h2)
 have hu:=h.used
 unfold Dk.used at hu
 omega
theorem aN.rR [Tab] (h:aN p M Q U) {ns:List ByteArray} (hs:∀n x,M n=some x→n∈ns):p.d.files.length≤ns.length:=by
 have hn:(p.d.files.map (·.name)).Nodup:=by
  have:=h.nodup
  have e:(p.d.files.map fun f=>f.name.toList)=(p.d.files.map (·.name)).map ByteArray.toList:=by rw[List.map_map];rfl
  rw[e] at this
  exact List.Pairwise.imp (fun {a b} hne e=>hne (by rw[e])) (List.pairwise_map.1 this)
 have:=oQ hn (B:=ns) fun a ha=>by
  obtain⟨f,hf,rfl⟩:=List.mem_map.1 ha
  obtain⟨i,hi⟩:=List.mem_iff_getElem?.1 hf
  obtain⟨y,b1,_⟩:=h.file i f hi
  exact hs _ _ b1
 rwa [List.length_map] at this
end
section
variable {p p':Pl} {M:bI} {Q U:Nat} {n:ByteArray} {x:St}
theorem mu {α β:Type} {f:α→β}:∀{l:List α},(l.map f).Nodup→∀{a b:α},a∈l→b∈l→f a=f b→a=b
 |c::l,h,a,b,ha,hb,e=>by
   rw[List.map_cons,List.nodup_cons] at h
   obtain⟨h1,h2⟩:=h
   rcases List.mem_cons.1 ha with ea|ha
   ·rcases List.mem_cons.1 hb with eb|hb
    ·rw[ea,eb]
    ·exact absurd (List.mem_map.2 ⟨b,hb,by rw[←e,ea]⟩) h1
   ·rcases List.mem_cons.1 hb with eb|hb
    ·exact absurd (List.mem_map.2 ⟨a,ha,by rw[e,eb]⟩) h1
    ·exact mu h2 ha hb e
theorem aN.yU [Tab] (h:aN p M Q U) {d':Dk} {i:Nat} {u:Fl→Fl} (hu:d'.down=false) (hc:d'.crash=none) (hq:d'.quota=p.d.quota) (hf:d'.files=p.d.files.modify i u) (hn:∀f,(u f).name=f.name) (hp:∀f,(u f).ao=f.ao):aN (p.bF d') M Q U:=by
 have hg:∀j,d'.files[j]?=(p.d.files[j]?).map (if i=j then u else id):=fun j=>by
  rw[hf,List.getElem?_modify]
  split<;>simp
 have hmap:∀{γ:Type} (w:Fl→γ),(∀f,w (u f)=w f)→d'.files.map w=p.d.files.map w:=fun w hw=>by
  apply List.ext_getElem?
  intro j
  rw[List.getElem?_map,List.getElem?_map,hg]
  cases p.d.files[j]? with
  |none=>rfl
  |some f=>by_cases e:i=j<;>simp[e,hw]
 refine⟨h.wrong,hu,hc,hq.trans h.quota,?_,?_,fun j f hj=>?_,fun m y hy=>?_,h.mine⟩
 ·show (d'.files.map fun f:Fl=>f.ao.length).sum=U
  rw[hmap _ fun f=>by rw[hp]]
  exact h.used
 ·show (d'.files.map fun f:Fl=>f.name.toList).Nodup
  rw[hmap _ fun f=>by rw[hn]]
  exact h.nodup
 ·have hj:d'.files[j]?=some f:=hj
  rw[hg] at hj
  obtain⟨g,h1,h2⟩:=Option.map_eq_some_iff.1 hj
  obtain⟨y,a,b,c⟩:=h.file j g h1
  have e1:f.name=g.name:=by
   rw[←h2];by_cases e:i=j<;>simp[e,hn]
  have e2:f.ao=g.ao:=by
   rw[←h2];by_cases e:i=j<;>simp[e,hp]
  rw[e1,e2]
  exact⟨y,a,b,c⟩
 ·obtain⟨j,f,h1,h2⟩:=h.there m y hy
  refine⟨j,(if i=j then u else id) f,?_,?_⟩
  ·show d'.files[j]?=_
   rw[hg,h1];rfl
  ·by_cases e:i=j<;>simp[e,hn,h2]
theorem Pl.WF.one [Tab] (hw:p.WF) {f g:Fr} (hf:f∈p.fs) (hg:g∈p.fs) (e1:f.name=g.name) (e2:f.page=g.page):f=g:=
 mu hw.keys hf hg (by unfold Fr.key;rw[e1,e2])
theorem aN.aE [Tab]:∀(l:List Nat) {p:Pl},aN p M Q U→p.WF→(∀f∈p.fs,f.name=n→f.dirty=true→f.page∈l)→
  (Pl.aE n l p).2=0∧aN (Pl.aE n l p).1 M Q U∧(∀f∈(Pl.aE n l p).1.fs,f.name=n→f.dirty=false)∧(∀g∈(Pl.aE n l p).1.fs,∃g0∈p.fs,g.pins=g0.pins)∧(Pl.aE n l p).1.most=p.most
 |[],p,h,hw,hd=>by
   refine⟨rfl,h,fun f hf hn=>?_,fun g hg=>⟨g,hg,rfl⟩,rfl⟩
   cases e:f.dirty with
   |false=>rfl
   |true=>have:=hd f hf hn e;cases this
 |k::l,p,h,hw,hd=>by
   unfold Pl.aE
   have skip:(∀f∈p.fs,f.name=n→f.page=k→f.dirty=false)→∀f∈p.fs,f.name=n→f.dirty=true→f.page∈l:=by
    intro hk f hf hn e
    rcases List.mem_cons.1 (hd f hf hn e) with r|r
    ·rw[hk f hf hn r] at e;cases e
    ·exact r
   cases hi:p.find n k with
   |none=>exact aN.aE l h hw (skip fun f hf hn e=>absurd (by omega) (Pl.jI hi f hf hn))
   |some i=>
     obtain⟨f,hf,hfn,hfp⟩:=Pl.lq hi
     have hfp':f.page=k:=by omega
     have hfm:=List.mem_of_getElem? hf
     simp only[Pl.fI hf]
     cases hdt:f.dirty with
     |false=>
       rw[if_neg (by simp)]
       refine aN.aE l h hw (skip fun g hg hn e=>?_)
       rw[hw.one hg hfm (by rw[hn,hfn]) (by omega)];exact hdt
     |true=>
       obtain⟨w1,w2,w3⟩:=h.put hw hf
       rw[if_pos rfl,if_pos w1]
       have hsame:=p.nC i
       have hmem:∀g∈(p.put i).1.fs,(∃j,j≠i∧p.fs[j]?=some g)∨g=Fr.clean f:=fun g hg=>by
        rw[w2,bP hf] at hg
        rcases jE hg with ⟨j,hji,hj⟩|r
        ·exact .inl ⟨j,hji,hj⟩
        ·exact .inr r
       obtain⟨r1,r2,r3,r4,r5⟩:=aN.aE l w3 (hw.put hf) (fun g hg hn e=>by
        rcases hmem g hg with ⟨j,hji,hj⟩|r
        ·have hgm:=List.mem_of_getElem? hj
         rcases List.mem_cons.1 (hd g hgm hn e) with r|r
         ·exfalso
          have:=hw.one hgm hfm (by rw[hn,hfn]) (by omega)
          subst this
          have hki:=hw.keys
          have hil:=(List.getElem?_eq_some_iff.1 hf).1
          have hjl:=(List.getElem?_eq_some_iff.1 hj).1
          exact hji ((List.getElem?_inj (l:=p.fs.map Fr.key) (by simpa using hjl) hki).1 (by rw[List.getElem?_map,List.getElem?_map,hf,hj]))
         ·exact r
        ·subst r;cases e)
       refine⟨r1,r2,r3,fun g hg=>?_,by rw[r5];exact hsame.1⟩
       obtain⟨g0,h0,h1⟩:=r4 g hg
       rcases hmem g0 h0 with ⟨j,_,hj⟩|r
       ·exact⟨g0,List.mem_of_getElem? hj,h1⟩
       ·subst r;exact⟨f,hfm,h1⟩
theorem aO.flush [Tab] (h:aO p M Q U) (hM:M n=some x):(p.flush n).2=0∧aO (p.flush n).1 M Q U∧(p.flush n).1.most=p.most:=by
 obtain⟨r1,r2,r3,r4,r5⟩:=h.told.aE (n:=n) (p.aM n) h.wf (fun f hf hn _=>by
  unfold Pl.aM
  rw[List.mem_mergeSort]
  exact List.mem_map.2 ⟨f,List.mem_filter.2 ⟨hf,by rw[hn];simp⟩,rfl⟩)
 obtain⟨i,f,i1,i2,_⟩:=r2.at hM
 have hs:(Pl.aE n (p.aM n) p).1.d.sync n=({(Pl.aE n (p.aM n) p).1.d with ops:=fT ((Pl.aE n (p.aM n) p).1.d.ops+1)}.Jf i fun f=>{f with synced:=f.ao,log:=[]},0):=by
  unfold Dk.sync
  rw[if_neg (by rw[r2.up];simp),i1]
  simp only
  unfold Dk.step
  rw[oP r2.calm,if_pos rfl]
 have e:p.flush n=((Pl.aE n (p.aM n) p).1.bF ((Pl.aE n (p.aM n) p).1.d.sync n).1,0):=by
  unfold Pl.flush
  rw[if_neg (by rw[h.told.wrong];simp),h.told.len hM]
  simp only
  rw[if_neg (by simp),if_neg (by rw[r1];simp),hs]
  rfl
 have hwf:=h.wf.flush n
 rw[e] at hwf ⊢
 refine⟨rfl,⟨?_,hwf,fun g hg=>?_⟩,r5⟩
 ·rw[hs]
  exact r2.yU (i:=i) r2.up r2.calm rfl rfl (fun f=>rfl) fun f=>rfl
 ·obtain⟨g0,h0,h1⟩:=r4 g hg
  rw[h1];exact h.free g0 h0
theorem Dk.Hi [Tab] {d:Dk} {i:Nat} (h:d.idx n=some i):d.drop n={d with files:=d.files.eraseIdx i}:=by unfold Dk.drop;rw[h]
theorem aO.dt [Tab] (h:aO p M Q U) (hM:M n=some x):(p.dt n).2=0∧aO (p.dt n).1 (jz M n none) Q (U - x.N)∧(p.dt n).1.most=p.most∧(p.dt n).1.next=p.next:=by
 obtain⟨i,f,i1,i2,i3,i4,_⟩:=h.told.at hM
 have hr:p.d.remove n=({{p.d with ops:=fT (p.d.ops+1)} with files:=p.d.files.eraseIdx i},0):=by
  unfold Dk.remove
  rw[if_neg (by rw[h.told.up];simp),if_neg (by rw[i1];simp)]
  unfold Dk.step
  rw[oP h.told.calm,if_pos rfl]
  exact congrArg (fun d:Dk=>(d,(0:Int))) (Dk.Hi (d:={p.d with ops:=fT (p.d.ops+1)}) i1)
 have e:p.dt n=((p.forget n).bF (p.d.remove n).1,0):=by
  unfold Pl.dt
  rw[if_neg (by rw[h.told.wrong];simp),h.told.len hM]
  simp only
  rw[if_neg (by simp),if_neg (by
   rw[List.any_eq_true]
   rintro⟨g,hg,h2⟩
   rw[h.free g hg] at h2
   simp at h2),hr]
  rfl
 rw[e]
 refine⟨rfl,⟨?_,(h.wf.forget n).bF _,fun g hg=>h.free g (List.mem_filter.1 hg).1⟩,rfl,rfl⟩
 rw[hr]
 have hil:=(List.getElem?_eq_some_iff.1 i2).1
 have hname:∀(j:Nat) (g:Fl),p.d.files[j]?=some g→g.name=n→j=i:=fun j g hj hg=>by
  have:=vX h.told.nodup hj
  rw[hg,i1] at this
  exact(Option.some.inj this).symm
 have hget:∀j g,(p.d.files.eraseIdx i)[j]?=some g→∃j',j'≠i∧p.d.files[j']?=some g:=fun j g hj=>by
  rw[List.getElem?_eraseIdx] at hj
  split at hj
  ·rename_i q;exact⟨j,by omega,hj⟩
  ·rename_i q;exact⟨j+1,by omega,hj⟩
 refine⟨h.told.wrong,h.told.up,h.told.calm,h.told.quota,?_,?_,fun j g hj=>?_,fun m y hy=>?_,fun g hg=>?_⟩
 ·have:=iC (fun f:Fl=>f.ao.length) p.d.files i f i2
  have hu:=h.told.used
  unfold Dk.used at hu
  show ((p.d.files.eraseIdx i).map fun f:Fl=>f.ao.length).sum=_
  rw[←i4]
  omega
 ·exact h.told.nodup.sublist ((List.eraseIdx_sublist _ _).map _)
 ·obtain⟨j',h1,h2⟩:=hget j g hj
  obtain⟨y,a,b,c⟩:=h.told.file j' g h2
  have hne:g.name≠n:=fun q=>h1 (hname j' g h2 q)
  refine⟨y,by rw[aK hne];exact a,b,fun k bb hk hcl=>c k bb hk fun f' hf' hn' hp'=>hcl f' (List.mem_filter.2 ⟨hf',?_⟩) hn' hp'⟩
  have:¬f'.name.toList=n.toList:=fun q=>hne (by rw[←hn'];exact jj q)
  simpa using this
 ·have hne:m≠n:=fun q=>by rw[q,bm] at hy;cases hy
  rw[aK hne] at hy
  obtain⟨j,g,h1,h2⟩:=h.told.there m y hy
  have hji:j≠i:=fun q=>by subst q;rw[i2] at h1;cases h1;exact hne (h2.symm.trans i3)
  rcases Nat.lt_or_ge j i with q|q
  ·exact⟨j,g,by show (p.d.files.eraseIdx i)[j]?=_;rw[List.getElem?_eraseIdx,if_pos q];exact h1,h2⟩
  ·exact⟨j - 1,g,by show (p.d.files.eraseIdx i)[j - 1]?=_;rw[List.getElem?_eraseIdx,if_neg (by omega),show j - 1+1=j by omega];exact h1,h2⟩
 ·obtain⟨g1,g2⟩:=List.mem_filter.1 hg
  obtain⟨y,a,b,c⟩:=h.told.mine g g1
  have hne:g.name≠n:=fun q=>by rw[q] at g2;simp at g2
  exact⟨y,by rw[aK hne];exact a,b,c⟩
end
def cA (M:bI):Prop:=∀n x,M n=some x→∀k,(x.T k).2.length≤504
theorem cA.set [Tab] {M:bI} {n:ByteArray} {x:St} (h:cA M) (hx:∀k,(x.T k).2.length≤504):cA (jz M n (some x)):=fun a y hy=>by
 by_cases q:a=n
 ·subst q;rw[bm] at hy;cases hy;exact hx
 ·rw[aK q] at hy;exact h a y hy
theorem cA.less {M:bI} {n:ByteArray} (h:cA M):cA (jz M n none):=fun a y hy=>by
 by_cases q:a=n
 ·subst q;rw[bm] at hy;cases hy
 ·rw[aK q] at hy;exact h a y hy
section
variable {p:Pl} {M:bI} {Q U:Nat} {n:ByteArray} {x:St}
theorem aO.JN [Tab] (h:aO p M Q U) (hM:M n=some x) (hN:U<Q) (hb0:x.N<1048577) (hs:n.size≤9223372036854775807) (h0:0≤p.next) (h1:p.next<1099511627776):
  (p.more n 0 []).2=0∧aO (p.more n 0 []).1 (jz M n (some ⟨x.N+1,gh x.T x.N (0,[])⟩)) Q (U+1)∧(p.more n 0 []).1.next=p.next+1∧(p.more n 0 []).1.most=p.most:=by
 obtain⟨r1,r2,r3,r4,_,r6,r7⟩:=h.told.fresh hM h.wf h.roomy hN
 obtain⟨_,_,hsub,_⟩:=h.told.roomy h.wf h.roomy
 have hfree:∀g∈p.room.1.fs,g.pins=[]:=fun g hg=>h.free g (hsub g hg)
 have hnx:(p.fresh n).1.next=p.next+1:=by rw[r3];exact sG h0 h1
 have hwf:(p.fresh n).1.WF:=r7 hb0 hs (by omega)
 generalize p.room.1.fs=l at r2 hfree
 unfold Pl.more
 rw[r1]
 generalize (p.fresh n).1=s at*
 simp only
 rw[if_neg (by simp),if_pos trivial]
 obtain⟨hi,hl⟩:=lk r2 hfree
 have e1:Pl.leave (s,0) p.next=s.aQ p.next:=if_pos rfl
 rw[e1]
 obtain⟨b1,b2,b3,b4⟩:=aO.Gy (c:=p.next) hwf r6 hi rfl hl (by omega)
 exact⟨b1,b2,b3.trans hnx,b4.trans r4⟩
structure oY (M:bI) (w:RW) (n:ByteArray) (W room:Nat) (rs:List (List Int)) (i:Nat):Prop where
 file:∃T,M n=some ⟨1+i/room,T⟩∧∀k,k<1+i/room→T k=runT rs room k
 b:w.b=⟨n,W,0,false⟩
 rows:w.rows=i
 n:w.n=i%room
 wait:w.wait=dw ((rs.drop (i/room*room)).take (i%room))
 last:0<i→w.last=rs.getD (i - 1) []
 le:i≤rs.length
structure jh (M:bI) (n:ByteArray) (W room:Nat) (rs:List (List Int)):Prop where
 file:∃T,M n=some ⟨1+aJ rs.length room,T⟩∧T 0=(2,cD W rs.length)∧∀k,k<aJ rs.length room→T (k+1)=(1,dw (df rs room k))
structure JA [Tab] (p p':Pl) (M M':bI) (n:ByteArray):Prop where
 other:∀a,a≠n→M' a=M a
 room:cA M'
 next:p.next≤p'.next∧p'.next≤p.next+2
 most:p'.most=p.most
variable {w:RW} {W:Nat} {rs:List (List Int)} {i:Nat}
theorem oY.ready [Tab] {room:Nat} (h:oY M w n W room rs i):w.b.ready=0:=by rw[h.b];rfl
theorem jh.aq [Tab] {room:Nat} {M':bI} (h:jh M n W room rs) (e:M' n=M n):jh M' n W room rs:=⟨by rw[e];exact h.file⟩
theorem Eh [Tab] (h:aO p M Q U) (hr:cA M) (hM:M n=none) (hn:named n=true) (hs:n.size≤9223372036854775807) (hl:p.d.files.length<4096) (hU:U<Q) (h0:0≤p.next) (h1:p.next<1099511627776) (hW:0≤W) (hW2:W≤16):
  bo p n W=(((p.bF (p.d.create n).1).more n 0 []).1,some (vi n W),0)∧∃M',aO (bo p n W).1 M' Q (U+1)∧oY M' (vi n W) n W (cg W) rs 0∧JA p (bo p n W).1 M M' n:=by
 obtain⟨r1,r2,r3,r4⟩:=bR hW hW2
 obtain⟨c1,c2,c3,c4⟩:=h.told.create hM hn hl (fun _=>(0,[]))
 have h2:aO (p.bF (p.d.create n).1) (jz M n (some ⟨0,fun _=>(0,[])⟩)) Q U:=⟨c2,h.wf.bF _,h.free⟩
 obtain⟨a1,a2,a3,a4⟩:=h2.JN (bm _ _ _) hU (by show (0:Nat)<_;decide) hs h0 h1
 have e:bo p n W=(((p.bF (p.d.create n).1).more n 0 []).1,some (vi n W),0):=by
  unfold bo
  rw[if_neg (by rw[r1];omega),if_neg (by rw[c1];simp),if_neg (by rw[a1];simp)]
 rw[e]
 refine⟨rfl,_,a2,⟨⟨_,by rw[bm,Nat.zero_div],fun k hk=>?_⟩,rfl,rfl,by rw[Nat.zero_mod];rfl,by rw[Nat.zero_mod];rfl,fun u=>absurd u (Nat.lt_irrefl _),Nat.zero_le _⟩,⟨fun a ha=>by rw[aK ha,aK ha],(hr.set (x:=⟨0,fun _=>(0,[])⟩) fun k=>Nat.zero_le _).set fun k=>?_,⟨?_,?_⟩,a4⟩⟩
 ·have:k=0:=by rw[Nat.zero_div] at hk;omega
  subst this
  exact dJ _ _ _
 ·show (gh (fun _=>(0,[])) 0 (0,[]) k).2.length≤504
  unfold gh
  split<;>exact Nat.zero_le _
 ·show p.next≤_
  rw[a3];show p.next≤p.next+1;omega
 ·show _≤p.next+2
  rw[a3];show p.next+1≤_;omega
theorem oY.add [Tab] (h:oY M w n W (cg W) rs i) (hC:aO p M Q U) (hR:cA M) (h1:0≤W) (h2:W≤16) (hr:fR W rs) (hi:i<rs.length) (hs:n.size≤9223372036854775807) (hQ:Q≤1048576) (hU:U<Q) (h0:0≤p.next) (hx:p.next<1099511627776):
  (w.add p (rs.getD i [])).2.2=0∧∃M' U',aO (w.add p (rs.getD i [])).1 M' Q U'∧oY M' (w.add p (rs.getD i [])).2.1 n W (cg W) rs (i+1)∧JA p (w.add p (rs.getD i [])).1 M M' n∧U'+i/(cg W)=U+(i+1)/(cg W)∧U'≤U+1:=by
 obtain⟨r1,r2,r3,r4⟩:=bR h1 h2
 generalize hroom:cg W=room at*
 obtain⟨T,c1,c2⟩:=h.file
 have hmem:rs.getD i []∈rs:=by
  rw[List.getD,List.getElem?_eq_getElem hi];exact List.getElem_mem hi
 have hlen:=hr.len _ hmem
 have hup:0<i→0<aF (rs.getD i []) w.last:=fun h0=>by
  rw[h.last h0,GJ]
  have:=hr.up (i - 1) (by omega)
  rwa [Nat.sub_add_cancel h0] at this
 have e:w.add p (rs.getD i [])=if i%room+1<room then (p,w.push (rs.getD i []),0) else (w.push (rs.getD i [])).out p:=by
  unfold RW.add
  rw[if_neg (by rw[h.ready];simp),if_neg (by rw[h.b,hlen];simp),if_neg (by
   rintro⟨a,b⟩
   rw[h.rows] at a
   have:=hup a
   omega),h.b,h.n]
  simp only[r1]
  by_cases hc:i%room+1<room
  ·rw[if_pos hc,if_pos (by omega)]
  ·rw[if_neg hc,if_neg (by omega)]
 have hwait:(w.push (rs.getD i [])).wait=dw ((rs.drop (i/room*room)).take (i%room+1)):=by
  have hd:=Nat.div_add_mod i room
  have hmc:room*(i/room)=i/room*room:=Nat.mul_comm _ _
  show w.wait++iu (rs.getD i [])=_
  rw[h.wait]
  have hx:(rs.drop (i/room*room))[i%room]?=some (rs.getD i []):=by
   rw[List.getElem?_drop]
   have:i/room*room+i%room=i:=by omega
   rw[this,List.getD,List.getElem?_eq_getElem hi];rfl
  have ht:(rs.drop (i/room*room)).take (i%room+1)=(rs.drop (i/room*room)).take (i%room)++[rs.getD i []]:=by
   rw[List.take_add_one,hx];rfl
  rw[ht]
  unfold dw
  rw[List.flatMap_append];simp
 have hbase:(w.push (rs.getD i [])).b=⟨n,W,0,false⟩:=h.b
 rcases E4 (i:=i) (room:=room) (by omega) with ⟨m1,m2,m3⟩|⟨m1,m2,m3⟩
 ·rw[e,if_pos m1]
  refine⟨rfl,M,U,hC,⟨⟨T,by rw[m2];exact⟨c1,c2⟩⟩,hbase,?_,?_,?_,fun _=>rfl,by omega⟩,⟨fun _ _=>rfl,hR,⟨Int.le_refl _,by show p.next≤p.next+2;omega⟩,rfl⟩,by omega,by omega⟩
  ·show w.rows+1=_;rw[h.rows]
  ·show w.n+1=_;rw[h.n,m3]
  ·rw[hwait,m2,m3]
 ·rw[e,if_neg (by omega)]
  have hpg:dw ((rs.drop (i/room*room)).take (i%room+1))=dw (df rs room (i/room)):=by rw[m1];rfl
  have hbl:(dw (df rs room (i/room))).length≤504:=by
   rw[kg h1 (L:=df rs room (i/room)) (fun l hl=>hr.len l (List.mem_of_mem_drop (List.mem_of_mem_take (show l∈(rs.drop _).take _ from hl))))]
   have:(df rs room (i/room)).length≤room:=List.length_take_le _ _
   calc _≤room*yq W:=Nat.mul_le_mul_right _ this
    _≤504:=r3
  have eo:(w.push (rs.getD i [])).out p=((p.more n 1 (dw (df rs room (i/room)))).1,{w.push (rs.getD i []) with b:=(w.push (rs.getD i [])).b.dE (p.more n 1 (dw (df rs room (i/room)))).2,wait:=[],n:=0},(p.more n 1 (dw (df rs room (i/room)))).2):=by
   unfold RW.out
   rw[if_neg (by show w.n+1≠0;omega),hbase,hwait,hpg]
  rw[eo]
  have hN:=hC.told.DE c1
  obtain⟨a1,a0,a2,a3,a4⟩:=hC.more c1 (k:=1) (b:=dw (df rs room (i/room))) hU (by show 1+i/room<_;have:1+i/room≤U:=hN;omega) hs h0 hx hbl (by decide)
  refine⟨a1,_,U+1,a2,⟨⟨_,by rw[bm,m2];rfl,fun k hk=>?_⟩,?_,?_,m3.symm,?_,fun _=>rfl,by omega⟩,⟨fun a ha=>aK ha,hR.set fun k=>oH (hR n _ c1) hbl k,⟨by rw[a3];omega,by rw[a3];omega⟩,a4⟩,by omega,Nat.le_refl _⟩
  ·show gh T (1+i/room) _ k=_
   by_cases ek:k=1+i/room
   ·subst ek
    rw[dJ,Nat.add_comm 1];rfl
   ·rw[cK ek];exact c2 k (by omega)
  ·show (w.push (rs.getD i [])).b.dE _=_
   rw[a1,hbase];rfl
  ·show w.rows+1=_;rw[h.rows]
  ·show []=_;rw[m3];simp[dw]
theorem FN [Tab] (w:RW) (p:Pl) (h1:(p.bn w.b.name 0).2.2=0):(p.mF w.b.name 0 2 (cD w.b.width w.rows))=Pl.leave ((p.bn w.b.name 0).1.set (p.bn w.b.name 0).2.1 2 (cD w.b.width w.rows)) (p.bn w.b.name 0).2.1:=by
 unfold Pl.mF
 rw[if_neg (by rw[h1];simp)]
theorem oY.close [Tab] (h:oY M w n W (cg W) rs rs.length) (hC:aO p M Q U) (hR:cA M) (h1:0≤W) (h2:W≤16) (hr:fR W rs) (hs:n.size≤9223372036854775807) (hQ:Q≤1048576) (hU:U<Q) (h0:0≤p.next) (hx:p.next<1099511627770):
  (w.close p).2.2=(rs.length,0)∧∃M' U',aO (w.close p).1 M' Q U'∧jh M' n W (cg W) rs∧JA p (w.close p).1 M M' n∧U'+rs.length/(cg W)=U+aJ rs.length (cg W)∧U'≤U+1∧∃p1,(w.close p).1=(p1.flush n).1∧p1.fs.length≤4096∧p1=((w.out p).1.mF n 0 2 (cD W rs.length)).1:=by
 obtain⟨r1,r2,r3,r4⟩:=bR h1 h2
 have pb:=xX h1 hr r3
 generalize hroom:cg W=room at*
 obtain⟨T,c1,c2⟩:=h.file
 obtain⟨d1,d2⟩:=yG (n:=rs.length) (room:=room) (by omega)
 have hm:=Nat.mod_lt rs.length (show 0<room by omega)
 have hdm:=Nat.div_add_mod rs.length room
 have out:(w.out p).2.2=0∧(w.out p).2.1.b=⟨n,W,0,false⟩∧(w.out p).2.1.rows=rs.length∧p.next≤(w.out p).1.next∧(w.out p).1.next≤p.next+1∧(w.out p).1.most=p.most∧
   ∃M' U' T',aO (w.out p).1 M' Q U'∧M' n=some ⟨1+aJ rs.length room,T'⟩∧(∀k,k<1+aJ rs.length room→T' k=runT rs room k)∧(∀a,a≠n→M' a=M a)∧cA M'∧U'+rs.length/room=U+aJ rs.length room∧U'≤U+1:=by
  unfold RW.out
  by_cases hz:w.n=0
  ·rw[if_pos hz]
   rw[h.n] at hz
   rw[d1 hz]
   exact⟨rfl,h.b,h.rows,Int.le_refl _,by show p.next≤p.next+1;omega,rfl,M,U,T,hC,c1,c2,fun _ _=>rfl,hR,rfl,by omega⟩
  ·rw[if_neg hz]
   rw[h.n] at hz
   rw[d2 hz]
   have hw:w.wait=dw (df rs room (rs.length/room)):=by
    rw[h.wait]
    unfold df
    congr 1
    have hmc:room*(rs.length/room)=rs.length/room*room:=Nat.mul_comm _ _
    rw[List.take_of_length_le (i:=room) (by rw[List.length_drop];omega),List.take_of_length_le (by rw[List.length_drop];omega)]
   rw[hw,h.b]
   simp only
   have hN:=hC.told.DE c1
   obtain⟨a1,a0,a2,a3,a4⟩:=hC.more c1 (k:=1) (b:=dw (df rs room (rs.length/room))) hU (by show 1+rs.length/room<_;have:1+rs.length/room≤U:=hN;omega) hs h0 (by omega) (pb _) (by decide)
   refine⟨a1,?_,h.rows,by rw[a3];omega,by rw[a3];omega,a4,_,U+1,_,a2,bm _ _ _,fun k hk=>?_,fun a ha=>aK ha,hR.set fun k=>oH (hR n _ c1) (pb _) k,by omega,Nat.le_refl _⟩
   ·rw[a1];rfl
   ·show gh T (1+rs.length/room) _ k=_
    by_cases ek:k=1+rs.length/room
    ·subst ek
     rw[dJ,Nat.add_comm 1];rfl
    ·rw[cK ek];exact c2 k (by omega)
 have hrdy:¬w.b.ready≠0:=by rw[h.ready];simp
 obtain⟨o1,o2,o3,o4,o5,om,M',U',T',o6,o7,o8,o9,oR,oU,oU2⟩:=out
 have e:w.close p=(w.out p).2.1.ends (w.out p).1:=by
  unfold RW.close
  rw[if_neg hrdy,if_neg (by rw[o1];simp)]
 rw[e]
 have hhb:(cD W rs.length).length≤504:=by simp[cD,dh,dy]
 have hN:=o6.told.DE o7
 have hUQ:U'≤1048576:=by
  have:=o6.told.used
  omega
 obtain⟨t1,t2,t3,t4⟩:=o6.mF o7 (by show 1+aJ rs.length room≤_;have:1+aJ rs.length room≤U':=hN;omega) hs (by omega) (by omega) (k:=0) (by show 0<1+aJ rs.length room;omega) (kd:=2) (b:=cD W rs.length) hhb
 obtain⟨q1,q2,_⟩:=o6.bn o7 (by show 1+aJ rs.length room≤_;have:1+aJ rs.length room≤U':=hN;omega) hs (by omega) (by omega) (k:=0) (by show 0<1+aJ rs.length room;omega)
 obtain⟨f1,f2,f3⟩:=t2.flush (bm _ _ _)
 have eo:(w.out p).1.mF n 0 2 (cD W rs.length)=Pl.leave (((w.out p).1.bn n 0).1.set ((w.out p).1.bn n 0).2.1 2 (cD W rs.length)) ((w.out p).1.bn n 0).2.1:=by
  have:=FN (w.out p).2.1 (w.out p).1 (by rw[o2];show ((w.out p).1.bn n 0).2.2=0;have q1':((w.out p).1.bn n 0).2=((w.out p).1.next,0):=q1;rw[q1'])
  rw[o2,o3] at this
  exact this
 have eh:(w.out p).2.1.head (w.out p).1=((w.out p).1.mF n 0 2 (cD W rs.length)).1.flush n:=by
  unfold RW.head
  rw[o2,o3]
  simp only
  have q1':((w.out p).1.bn n 0).2=((w.out p).1.next,0):=q1
  rw[if_neg (by rw[q1'];simp),if_neg (by rw[←eo];have:((w.out p).1.mF n 0 2 (cD W rs.length)).2=0:=t1;rw[this];simp),←eo]
 have ee:(w.out p).2.1.ends (w.out p).1=(((w.out p).2.1.head (w.out p).1).1,(w.out p).2.1.stop,(w.out p).2.1.rows,0):=by
  unfold RW.ends
  rw[if_neg (by rw[eh];have:(((w.out p).1.mF n 0 2 (cD W rs.length)).1.flush n).2=0:=f1;rw[this];simp)]
 rw[ee,eh,o3]
 have hT:∀k,k<1+aJ rs.length room→gh T' 0 (2,cD W rs.length) k=if k=0 then (2,cD W rs.length) else (1,dw (df rs room (k - 1))):=by
  intro k hk
  by_cases q0:k=0
  ·subst q0;rw[dJ,if_pos rfl]
  ·rw[cK q0,o8 k hk,if_neg q0]
   obtain⟨m,rfl⟩:∃m,k=m+1:=⟨k - 1,by omega⟩
   rfl
 have fn:(((w.out p).1.mF n 0 2 (cD W rs.length)).1.flush n).1.next=(w.out p).1.next+1:=(Pl.lS _ n).trans t3
 refine⟨rfl,_,U',f2,⟨_,bm _ _ _,?_,fun k hk=>?_⟩,⟨fun a ha=>(aK ha).trans (o9 a ha),oR.set fun k=>oH (oR n _ o7) hhb k,⟨by rw[fn];omega,by rw[fn];omega⟩,f3.trans (t4.trans om)⟩,oU,oU2,_,rfl,Nat.le_trans t2.wf.len t2.wf.most.2,rfl⟩
 ·show gh T' 0 _ 0=_
  rw[hT 0 (by omega),if_pos rfl]
 ·show gh T' 0 _ (k+1)=_
  rw[hT (k+1) (by omega),if_neg (by omega)];rfl
end
section
variable {p:Pl} {M:bI} {Q U:Nat} {n:ByteArray} {r:RR} {W:Nat} {rs:List (List Int)}
theorem kE.KP [Tab] (h:kE r n W (cg W) rs) (h1:0≤W) (h2:W≤16) (hbig:rs.length≤1000000):r.Ok:=by
 have hrm:=h.room h1 h2
 have r2:=(bR h1 h2).2.1
 refine⟨by rw[hrm];omega,by rw[h.rows];exact h.at_,fun j hj=>?_,by rw[h.rows];omega,h.cols⟩
 obtain⟨_,j2⟩:=h.page j hj
 rw[j2,hrm,h.rows,uY]
theorem jh.opened [Tab] (h:jh M n W (cg W) rs) (hC:aO p M Q U) (h1:0≤W) (h2:W≤16) (hs:n.size≤9223372036854775807) (hQ:Q≤1048576) (hU:U≤Q) (hbig:rs.length≤1000000) (h0:0≤p.next) (hnx:p.next<1099511627776):
  (rnOpen p n W).2=(some (EH n W rs.length),0)∧aO (rnOpen p n W).1 M Q U∧kE (EH n W rs.length) n W (cg W) rs∧(rnOpen p n W).1.next=p.next+1∧(rnOpen p n W).1.most=p.most∧((p.look n 0).1.d.len n).1<4611686018427387904∧(EH n W rs.length).Ok:=by
 obtain⟨r1,r2,r3,r4⟩:=bR h1 h2
 generalize cg W=room at*
 obtain⟨T,c1,c2,c3⟩:=h.file
 have hNU:1+aJ rs.length room≤U:=hC.told.DE c1
 obtain⟨l1,l2,l3,l4⟩:=hC.look c1 (k:=0) (by show 1+aJ rs.length room≤_;omega) hs h0 hnx (by show 0<1+aJ rs.length room;omega)
 have c2':(St.T ⟨1+aJ rs.length room,T⟩ 0)=(2,cD W rs.length):=c2
 rw[c2'] at l1
 have e0:((0:Nat):Int)=0:=rfl
 rw[e0] at l1 l2 l3 l4
 have hl:(p.look n 0).1.d.len n=(1+aJ rs.length room,0):=l2.told.len c1
 have hN:=pk (n:=rs.length) (show 0<room by omega)
 have hw:dm (ie ((cD W rs.length).drop 1))=(rs.length:Int):=Cf (by omega)
 have hW:((cD W rs.length).getD 0 0).toNat=W:=by
  show (UInt8.ofNat (W:Int).toNat).toNat=W
  rw[Int.toNat_natCast,UInt8.toNat_ofNat'];omega
 have h9:(cD W rs.length).length=9:=by simp[cD,dh,dy]
 have e:rnOpen p n W=((p.look n 0).1,some (EH n W rs.length),0):=by
  unfold rnOpen
  rw[if_neg (by rw[r1];omega),l1,if_neg (by simp)]
  simp only
  rw[if_neg (fun q=>q ⟨by first|trivial|rfl,h9,by rw[hW]⟩),hl]
  simp only
  rw[if_neg (by simp),hw,if_pos ⟨by omega,by rw[r1,Int.toNat_natCast,Int.toNat_natCast]⟩]
  rfl
 rw[e]
 exact⟨rfl,l2,⟨rfl,rfl,Nat.zero_le _,fun j hj=>(by cases hj),fun l hl=>(by cases hl)⟩,l3,l4,by rw[hl];show 1+aJ rs.length room<_;omega,(oq (s:=p) (n:=n) (W:=W) (by rw[e])).1⟩
theorem jh.load [Tab] (h:jh M n W (cg W) rs) (hC:aO p M Q U) (hd:kE r n W (cg W) rs) (h1:0≤W) (h2:W≤16) (hr:fR W rs) (hs:n.size≤9223372036854775807) (hQ:Q≤1048576) (hU:U≤Q)
  (h0:0≤p.next) (hnx:p.next<1099511627776) {j:Nat} (hj:j<aJ rs.length (cg W)):
  (r.load p j).2.2=0∧aO (r.load p j).1 M Q U∧kE (r.load p j).2.1 n W (cg W) rs∧(r.load p j).2.1.ins=df rs (cg W) j∧(r.load p j).2.1.at_=r.at_∧p.next≤(r.load p j).1.next∧(r.load p j).1.next≤p.next+1∧(r.load p j).1.most=p.most:=by
 have hrm:=hd.room h1 h2
 obtain⟨r1,r2,r3,r4⟩:=bR h1 h2
 generalize cg W=room at*
 unfold RR.load
 by_cases hp:r.page=some j
 ·rw[if_pos hp]
  exact⟨rfl,hC,hd,(hd.page j hp).2,rfl,Int.le_refl _,by show p.next≤p.next+1;omega,rfl⟩
 rw[if_neg hp]
 obtain⟨T,c1,c2,c3⟩:=h.file
 have hNU:1+aJ rs.length room≤U:=hC.told.DE c1
 obtain⟨l1,l2,l3,l4⟩:=hC.look c1 (k:=j+1) (by show 1+aJ rs.length room≤_;omega) hs h0 hnx (by show j+1<1+aJ rs.length room;omega)
 have e1:((j+1:Nat):Int)=(j:Int)+1:=by omega
 have c3':(St.T ⟨1+aJ rs.length room,T⟩ (j+1))=(1,dw (df rs room j)):=c3 j hj
 rw[e1,c3'] at l1
 rw[e1] at l2 l3 l4
 rw[hd.b]
 simp only
 rw[l1]
 simp only
 have hsub:∀l∈df rs room j,l∈rs:=fun l hl=>List.mem_of_mem_drop (List.mem_of_mem_take (show l∈(rs.drop _).take _ from hl))
 obtain⟨g1,g2⟩:=sq h2 (fun l hl=>hr.len l (hsub l hl)) (fun l hl=>hr.fit l (hsub l hl))
 rw[←uZ] at g1 g2
 have hok:fu (ie (dw (df rs room j))) W=true:=by
  unfold tE at g2
  cases e:fu (ie (dw (df rs room j))) W with
  |true=>rfl
  |false=>rw[e] at g2;simp at g2
 have hfit:r.fits j 1 (dw (df rs room j))=true:=by
  unfold RR.fits
  rw[hd.b,hd.rows]
  simp only
  rw[hok,g1,uY]
  have:Rb.room ⟨n,W,0,false⟩=room:=by rw[←hd.b];exact hrm
  rw[this];simp
 rw[if_neg (by simp),if_pos hfit]
 refine⟨rfl,l2,⟨rfl,hd.rows,hd.at_,fun i hi=>?_,ud⟩,g1,rfl,?_,?_,l4⟩
 ·simp only at hi;cases hi
  exact⟨hj,g1⟩
 ·rw[l3];omega
 ·rw[l3];exact Int.le_refl _
theorem jh.next [Tab] (h:jh M n W (cg W) rs) (hC:aO p M Q U) (hd:kE r n W (cg W) rs) (h1:0≤W) (h2:W≤16) (hr:fR W rs) (hs:n.size≤9223372036854775807) (hQ:Q≤1048576) (hU:U≤Q)
  (h0:0≤p.next) (hnx:p.next<1099511627776):
  (r.at_<rs.length→(r.next p).2.2=(rs.getD r.at_ [],true,0)∧aO (r.next p).1 M Q U∧kE (r.next p).2.1 n W (cg W) rs∧(r.next p).2.1.at_=r.at_+1∧p.next≤(r.next p).1.next∧(r.next p).1.next≤p.next+1∧(r.next p).1.most=p.most)∧
  (r.at_=rs.length→r.next p=(p,r,[],false,0)):=by
 have hrdy:¬r.b.ready≠0:=by rw[hd.b];simp[Rb.ready]
 have hrm:=hd.room h1 h2
 refine⟨fun ha=>?_,fun ha=>?_⟩
 ·have hr3:=(bR h1 h2).2.1
  have hpj:r.at_/(cg W)<aJ rs.length (cg W):=by
   unfold aJ
   rw[Nat.lt_iff_add_one_le,Nat.le_div_iff_mul_le (by omega),Nat.add_mul]
   have:=Nat.div_mul_le_self r.at_ (cg W)
   omega
  obtain⟨l1,l2,l3,l4,l5,l6,l7,l8⟩:=h.load hC hd h1 h2 hr hs hQ hU h0 hnx hpj
  unfold RR.next
  rw[if_neg hrdy,if_neg (by rw[hd.rows];omega),hrm,if_neg (by rw[l1];simp)]
  simp only
  have hm:=Nat.mod_lt r.at_ (show 0<cg W by omega)
  have hdm:=Nat.div_add_mod r.at_ (cg W)
  have hmc:(cg W)*(r.at_/(cg W))=r.at_/(cg W)*(cg W):=Nat.mul_comm _ _
  have hat:r.at_/(cg W)*(cg W)+r.at_%(cg W)=r.at_:=by omega
  have eg:(r.load p (r.at_/(cg W))).2.1.ins.getD (r.at_%(cg W)) []=rs.getD r.at_ []:=by rw[l4,Bb hm,hat]
  rw[eg]
  exact⟨by first|trivial|rfl,l2,⟨l3.b,l3.rows,by show r.at_+1≤_;omega,l3.page,l3.cols⟩,by first|trivial|rfl,l6,l7,l8⟩
 ·unfold RR.next
  rw[if_neg hrdy,if_pos (by rw[hd.rows];exact ha)]
end
theorem kf:∀{hs:List (Option (List Int))},eQ hs=none→∀(j:Nat) (y:List Int),hs[j]?≠some (some y)
 |[],_,j,y=>by simp
 |none::t,h,j,y=>by
   simp only[eQ,Option.map_eq_none_iff] at h
   cases j with
   |zero=>simp
   |succ j=>simpa using kf h j y
 |some a::t,h,j,y=>by
   simp only[eQ] at h
   cases e:eQ t with
   |none=>rw[e] at h;cases h
   |some q=>
     obtain⟨k,z⟩:=q
     rw[e] at h
     simp only at h
     split at h<;>cases h
theorem iL:∀{hs:List (Option (List Int))} {i:Nat} {x:List Int},eQ hs=some (i,x)→hs[i]?=some (some x)∧∀(j:Nat) (y:List Int),hs[j]?=some (some y)→aF x y≤0∧(j<i→aF x y<0)
 |[],i,x,h=>by simp[eQ] at h
 |none::t,i,x,h=>by
   simp only[eQ,Option.map_eq_some_iff] at h
   obtain⟨⟨k,z⟩,h1,h2⟩:=h
   cases h2
   obtain⟨a,b⟩:=iL h1
   refine⟨by simpa using a,fun j y hj=>?_⟩
   cases j with
   |zero=>simp at hj
   |succ j=>
     obtain⟨c,d⟩:=b j y (by simpa using hj)
     exact⟨c,fun q=>d (by simpa using q)⟩
 |some a::t,i,x,h=>by
   simp only[eQ] at h
   cases e:eQ t with
   |none=>
     rw[e] at h
     cases h
     refine⟨rfl,fun j y hj=>?_⟩
     cases j with
     |zero=>simp at hj;subst hj;exact⟨Int.le_of_eq (cE _),fun q=>absurd q (Nat.lt_irrefl _)⟩
     |succ j=>exact absurd (by simpa using hj) (kf e j y)
   |some q=>
     obtain⟨k,z⟩:=q
     rw[e] at h
     obtain⟨u,v⟩:=iL e
     simp only at h
     split at h
     ·rename_i hlt
      cases h
      refine⟨by simpa using u,fun j y hj=>?_⟩
      cases j with
      |zero=>simp at hj;subst hj;exact⟨Int.le_of_lt hlt,fun _=>hlt⟩
      |succ j=>
        obtain⟨c,d⟩:=v j y (by simpa using hj)
        exact⟨c,fun q=>d (by omega)⟩
     ·rename_i hge
      cases h
      have hax:aF a z≤0:=by have:=cI a z;omega
      refine⟨rfl,fun j y hj=>⟨?_,fun q=>absurd q (Nat.not_lt_zero _)⟩⟩
      cases j with
      |zero=>simp at hj;subst hj;exact Int.le_of_eq (cE _)
      |succ j=>exact gK hax (v j y (by simpa using hj)).1
structure zZ where
 n:ByteArray
 L:List (List Int)
 rem:List (List Int)
 r:RR
 h:Option (List Int)
structure zZ.Good [Tab] (x:zZ) (M:bI) (W:Nat):Prop where
 run:jh M x.n W (cg W) x.L
 rise:fR W x.L
 on:kE x.r x.n W (cg W) x.L
 head:x.h=x.rem.head?
 rem:x.rem.tail=x.L.drop x.r.at_
 pos:x.h.isSome=true→1≤x.r.at_∧x.rem=x.L.drop (x.r.at_ - 1)
 size:x.n.size≤9223372036854775807
 big:x.L.length≤1000000
def gZ (xs:List zZ):List (List Int):=xs.flatMap (·.rem)
section
variable {M:bI} {W:Nat} {x:zZ} {xs:List zZ}
theorem zZ.Good.up [Tab] (h:x.Good M W):x.rem.Pairwise (fun a b=>aF a b<0):=by
 have hL:x.L.Pairwise (fun a b=>aF a b<0):=by
  refine List.pairwise_iff_getElem.2 fun i j hi hj hij=>?_
  have:=h.rise.mono hij hj
  rwa [List.getD,List.getElem?_eq_getElem hi,List.getD,List.getElem?_eq_getElem hj] at this
 cases e:x.h with
 |none=>
   have:=h.head
   rw[e] at this
   rw[List.head?_eq_none_iff.1 this.symm]
   exact List.Pairwise.nil
 |some z=>
   obtain⟨_,b⟩:=h.pos (by rw[e];rfl)
   rw[b]
   exact hL.sublist (List.drop_sublist _ _)
theorem zZ.Good.count [Tab] (h:x.Good M W):x.r.rows - x.r.at_+(if x.h.isSome then 1 else 0)=x.rem.length:=by
 have h1:=h.on.rows
 have h2:=h.on.at_
 have h3:=congrArg List.length h.rem
 rw[List.length_tail,List.length_drop] at h3
 cases e:x.h with
 |none=>
   have:=h.head
   rw[e] at this
   have h4:=List.head?_eq_none_iff.1 this.symm
   rw[h4] at h3 ⊢
   simp at h3 ⊢
   omega
 |some z=>
   have h4:x.rem≠[]:=fun q=>by
    have:=h.head
    rw[e,q] at this;cases this
   have:=List.length_pos_iff.2 h4
   simp
   omega
theorem zZ.Good.aq [Tab] {M':bI} (h:x.Good M W) (e:M' x.n=M x.n):x.Good M' W:=⟨h.run.aq e,h.rise,h.on,h.head,h.rem,h.pos,h.size,h.big⟩
theorem sR [Tab]:∀{xs:List zZ},(∀x∈xs,x.Good M W)→dg (xs.map (·.r))+fZ (xs.map (·.h))=(gZ xs).length
 |[],_=>rfl
 |x::xs,h=>by
   have a:=(h x List.mem_cons_self).count
   have b:=sR (xs:=xs) fun y hy=>h y (List.mem_cons_of_mem _ hy)
   simp only[dg,fZ,gZ,List.map_cons,List.sum_cons,List.flatMap_cons,List.length_append] at b ⊢
   omega
theorem sX [Tab]:∀{xs:List zZ} {j:Nat} {x x':zZ} {y:List Int},xs[j]?=some x→x.rem=y::x'.rem→(gZ xs).Perm (y::gZ (xs.set j x'))
 |[],j,x,x',y,h,_=>by simp at h
 |a::xs,0,x,x',y,h,e=>by
   simp at h;subst h
   simp only[gZ,List.set_cons_zero,List.flatMap_cons]
   rw[e];exact .refl _
 |a::xs,j+1,x,x',y,h,e=>by
   have:=sX (xs:=xs) (j:=j) (by simpa using h) e
   simp only[gZ,List.set_cons_succ,List.flatMap_cons] at this ⊢
   exact(this.append_left _).trans List.perm_middle
theorem Cs [Tab] (h:∀x∈xs,x.Good M W) (e:eQ (xs.map (·.h))=none):gZ xs=[]:=by
 unfold gZ
 rw[List.flatMap_eq_nil_iff]
 intro x hx
 obtain⟨j,hj⟩:=List.mem_iff_getElem?.1 hx
 have hh:=(h x hx).head
 cases q:x.h with
 |none=>rw[q] at hh;exact List.head?_eq_none_iff.1 hh.symm
 |some y=>exact absurd (by rw[List.getElem?_map,hj];simp[q]) (kf e j y)
theorem Bv [Tab] {j:Nat} {y:List Int} (h:∀x∈xs,x.Good M W) (e:eQ (xs.map (·.h))=some (j,y)):∃x s,xs[j]?=some x∧x.h=some y∧x.rem=y::x.rem.tail∧bp (gZ xs)=y::s∧∀x',x'.rem=x.rem.tail→bp (gZ (xs.set j x'))=s:=by
 obtain⟨a,b⟩:=iL e
 rw[List.getElem?_map,Option.map_eq_some_iff] at a
 obtain⟨x,h1,h2⟩:=a
 have hx:=h x (List.mem_of_getElem? h1)
 have hr:x.rem=y::x.rem.tail:=by
  have:=hx.head
  rw[h2] at this
  cases q:x.rem with
  |nil=>rw[q] at this;cases this
  |cons z t=>rw[q] at this;cases this;rfl
 suffices key:∀x',x'.rem=x.rem.tail→bp (gZ xs)=y::bp (gZ (xs.set j x')) by
  have k0:=key ⟨x.n,x.L,x.rem.tail,x.r,x.h⟩ rfl
  exact⟨x,_,h1,h2,hr,k0,fun x' e'=>(List.cons.inj ((key x' e').symm.trans k0)).2⟩
 intro x' e'
 have hp:=sX (x':=x') h1 (by rw[e'];exact hr)
 have least:∀z∈gZ xs,aF y z≤0:=fun z hz=>by
  obtain⟨u,hu,hz⟩:=List.mem_flatMap.1 hz
  obtain⟨k,hk⟩:=List.mem_iff_getElem?.1 hu
  have gu:=h u hu
  cases q:u.rem with
  |nil=>rw[q] at hz;cases hz
  |cons v t=>
    have hv:u.h=some v:=by rw[gu.head,q];rfl
    have h3:=(b k v (by rw[List.getElem?_map,hk];simp[hv])).1
    rw[q] at hz
    rcases List.mem_cons.1 hz with rfl|hz
    ·exact h3
    ·have:=gu.up
     rw[q] at this
     exact gK h3 (Int.le_of_lt ((List.pairwise_cons.1 this).1 z hz))
 refine rX ((fh _).trans (hp.trans ((fh _).symm.cons _))) (gI _) (List.pairwise_cons.2 ⟨fun z hz=>?_,gI _⟩)
 exact least z (hp.mem_iff.2 (List.mem_cons_of_mem _ ((fh _).mem_iff.1 hz)))
def mS (i:Nat) (last:List Int) (s:List (List Int)):List (List Int):=if i=0 then ay s else dd last s
theorem Cn (i:Nat) (last:List Int):mS i last []=[]:=by unfold mS;split<;>rfl
theorem zF (i:Nat) (last y:List Int) (s:List (List Int)):mS i last (y::s)=if i=0∨aF y last≠0 then y::dd y s else dd last s:=by
 unfold mS
 by_cases h:i=0
 ·rw[if_pos h,if_pos (.inl h)];rfl
 ·rw[if_neg h]
  simp only[dd]
  by_cases q:y=last
  ·rw[if_pos q,if_neg (by rintro(u|u);exact h u;exact u (cG.2 q)),q]
  ·rw[if_neg q,if_pos (.inr fun u=>q (cG.1 u))]
variable {p:Pl} {Q U:Nat}
theorem uC [Tab] {n:ByteArray} {L:List (List Int)} {r:RR} (hrun:jh M n W (cg W) L) (hr:fR W L) (hon:kE r n W (cg W) L) (hs:n.size≤9223372036854775807) (hb:L.length≤1000000) (hC:aO p M Q U) (h2:W≤16) (hQ:Q≤1048576) (hU:U≤Q) (h0:0≤p.next) (hnx:p.next<1099511627776):
  (r.next p).2.2.2.2=0∧aO (r.next p).1 M Q U∧p.next≤(r.next p).1.next∧(r.next p).1.next≤p.next+1∧(r.next p).1.most=p.most∧
   (⟨n,L,L.drop r.at_,(r.next p).2.1,fL (r.next p).2.2.1 (r.next p).2.2.2.1⟩:zZ).Good M W:=by
 obtain⟨n1,n2⟩:=hrun.next hC hon (Nat.zero_le _) h2 hr hs hQ hU h0 hnx
 have hat:=hon.at_
 rcases Nat.lt_or_ge r.at_ L.length with hc|hc
 ·obtain⟨a1,a2,a3,a4,a5,a6,a7⟩:=n1 hc
  refine⟨by rw[a1],a2,a5,a6,a7,hrun,hr,a3,?_,?_,fun _=>?_,hs,hb⟩
  ·show fL _ _=(L.drop r.at_).head?
   rw[a1]
   show some _=_
   rw[List.head?_drop,List.getD,List.getElem?_eq_getElem hc];rfl
  ·show (L.drop r.at_).tail=L.drop (r.next p).2.1.at_
   rw[a4,List.tail_drop]
  ·show 1≤(r.next p).2.1.at_∧_=L.drop ((r.next p).2.1.at_ - 1)
   rw[a4]
   exact⟨by omega,rfl⟩
 ·have e:=n2 (by omega)
  have hd:L.drop r.at_=[]:=List.drop_of_length_le hc
  rw[e]
  refine⟨rfl,hC,Int.le_refl _,by show p.next≤p.next+1;omega,rfl,hrun,hr,hon,?_,?_,fun q=>(by cases q),hs,hb⟩
  ·show none=(L.drop r.at_).head?
   rw[hd];rfl
  ·show (L.drop r.at_).tail=L.drop r.at_
   rw[hd];rfl
end
open Go.MapKept
section
variable {L L':List Hx} {hs:List (Option (List Int))}
theorem ct.nil (k:Nat):ct [] (List.replicate k none):=⟨List.Pairwise.nil,fun i y=>⟨fun h=>by
 rw[List.getElem?_replicate] at h
 split at h<;>simp at h,fun⟨x,h,_⟩=>by cases h⟩⟩
theorem ct.empty (h:ct [] hs):eQ hs=none:=by
 cases e:eQ hs with
 |none=>rfl
 |some q=>
   obtain⟨i,y⟩:=q
   obtain⟨x,hx,_⟩:=(h.mem i y).1 (iL e).1
   cases hx
theorem ct.one [Tab] (h:ct L hs) {x y:Hx} (hx:x∈L) (hy:y∈L) (e:x.no=y.no):x=y:=mu (f:=Hx.no) h.nodup hx hy e
theorem ct.top [Tab] (h:ct L hs) (hO:Hp ahead L) {top:Hx} (ht:L[0]?=some top):eQ hs=some (top.no,top.row):=by
 have mt:=List.mem_of_getElem? ht
 cases e:eQ hs with
 |none=>exact absurd ((h.mem top.no top.row).2 ⟨top,mt,rfl,rfl⟩) (kf e _ _)
 |some q=>
   obtain⟨i,y⟩:=q
   obtain⟨b1,b2⟩:=iL e
   obtain⟨x,hx,hi,hy⟩:=(h.mem i y).1 b1
   obtain⟨c1,c2⟩:=b2 top.no top.row ((h.mem _ _).2 ⟨top,mt,rfl,rfl⟩)
   obtain⟨j,hj⟩:=List.mem_iff_getElem?.1 hx
   have hn:=ED fw hO ht j x hj
   have e2:x.no=top.no:=by
    rcases Nat.lt_trichotomy x.no top.no with u|u|u
    ·refine absurd ?_ hn
     rcases Int.lt_or_eq_of_le c1 with v|v
     ·exact .inl (by rw[hy];exact v)
     ·exact .inr ⟨by rw[hy];exact v,u⟩
    ·exact u
    ·exact absurd (.inl (by rw[hy];exact c2 (by omega))) hn
   have e3:=h.one hx mt e2
   subst e3
   rw[←hi,←hy]
theorem ct.pop [Tab] (h:ct L hs) {top:Hx} (hP:L.Perm (top::L')):ct L' (hs.set top.no none)∧∀x∈L',x.no≠top.no:=by
 have hnd:=(hP.map Hx.no).nodup_iff.1 h.nodup
 rw[List.map_cons,List.nodup_cons] at hnd
 have hne:∀x∈L',x.no≠top.no:=fun x hx q=>hnd.1 (List.mem_map.2 ⟨x,hx,q⟩)
 refine⟨⟨hnd.2,fun i y=>?_⟩,hne⟩
 by_cases e:i=top.no
 ·subst e
  refine⟨fun q=>?_,fun⟨x,hx,q,_⟩=>absurd q (hne x hx)⟩
  rw[List.getElem?_set] at q
  rw[if_pos rfl] at q
  split at q<;>simp at q
 ·rw[List.getElem?_set_ne (Ne.symm e),h.mem]
  refine⟨fun⟨x,hx,q,r⟩=>?_,fun⟨x,hx,q⟩=>⟨x,hP.mem_iff.2 (List.mem_cons_of_mem _ hx),q⟩⟩
  rcases List.mem_cons.1 (hP.mem_iff.1 hx) with u|u
  ·subst u;exact absurd q.symm e
  ·exact⟨x,u,q,r⟩
theorem ct.push [Tab] (h:ct L hs) {x:Hx} (hi:x.no<hs.length) (hn:∀y∈L,y.no≠x.no) (hP:L'.Perm (L++[x])):ct L' (hs.set x.no (some x.row)):=by
 refine⟨?_,fun i y=>?_⟩
 ·refine(hP.map Hx.no).nodup_iff.2 ?_
  rw[List.map_append,List.nodup_append]
  refine⟨h.nodup,by simp,fun a ha c hc=>?_⟩
  simp at hc
  obtain⟨z,z1,z2⟩:=List.mem_map.1 ha
  rw[hc,←z2];exact hn z z1
 ·by_cases e:i=x.no
  ·subst e
   rw[List.getElem?_set_self hi]
   refine⟨fun q=>?_,fun⟨z,hz,q,r⟩=>?_⟩
   ·simp at q
    exact⟨x,hP.mem_iff.2 (by simp),rfl,q⟩
   ·rcases List.mem_append.1 (hP.mem_iff.1 hz) with u|u
    ·exact absurd q (hn z u)
    ·rw[List.mem_singleton] at u
     subst u;rw[r]
  ·rw[List.getElem?_set_ne (Ne.symm e),h.mem]
   refine⟨fun⟨z,hz,q⟩=>⟨z,hP.mem_iff.2 (List.mem_append_left _ hz),q⟩,fun⟨z,hz,q,r⟩=>?_⟩
   rcases List.mem_append.1 (hP.mem_iff.1 hz) with u|u
   ·exact⟨z,u,q,r⟩
   ·rw[List.mem_singleton] at u
    subst u;exact absurd q.symm e
theorem ct.len [Tab] (h:ct L hs):L.length≤hs.length:=by
 have:=oQ h.nodup (B:=List.range hs.length) fun a ha=>by
  obtain⟨x,hx,rfl⟩:=List.mem_map.1 ha
  have:=(h.mem x.no x.row).2 ⟨x,hx,rfl,rfl⟩
  exact List.mem_range.2 (List.getElem?_eq_some_iff.1 this).1
 simpa using this
end
structure qp (w:RW) (nm:ByteArray) (c:Nat):Prop where
 wait:w.wait.length≤129*w.n
 n:w.n≤504
 rows:w.rows≤c
 width:0≤w.b.width∧w.b.width≤16
 name:w.b.name=nm
theorem nq [Tab] {s:Pl} {n:ByteArray} {W:Int}:((bo s n W).2.1=none→(bo s n W).2.2≠0)∧∀w,(bo s n W).2.1=some w→(bo s n W).2.2=0∧w=vi n W∧0≤W∧W≤16:=by
 unfold bo
 split
 ·exact⟨fun _=>(by simp),fun w q=>(by cases q)⟩
 ·rename_i hr
  have hW:0≤W∧W≤16:=by
   refine Classical.byContradiction fun u=>hr ?_
   have:bJ W=0:=by unfold bJ;rw[if_pos (by omega)]
   unfold aU;rw[if_pos this]
  split
  ·rename_i h;exact⟨fun _=>h,fun w q=>(by cases q)⟩
  ·split
   ·rename_i h;exact⟨fun _=>h,fun w q=>(by cases q)⟩
   ·exact⟨fun q=>(by cases q),fun w q=>(by cases q;exact⟨rfl,rfl,hW⟩)⟩
theorem qp.mono [Tab] {w:RW} {n:ByteArray} {c d:Nat} (h:qp w n c) (hd:c≤d):qp w n d:=⟨h.wait,h.n,Nat.le_trans h.rows hd,h.width,h.name⟩
theorem EJ (n:ByteArray) {W:Int} (h1:0≤W) (h2:W≤16):qp (vi n W) n 0:=⟨Nat.zero_le _,Nat.zero_le _,Nat.le_refl _,⟨h1,h2⟩,rfl⟩
theorem qp.add [Tab] {w:RW} {n:ByteArray} {c:Nat} (h:qp w n c) (s:Pl) (l:List Int):qp (w.add s l).2.1 n (c+1)∧((w.add s l).2.2=0→(w.add s l).2.1.last=l∧0<(w.add s l).2.1.rows):=by
 have m:=h.mono (Nat.le_succ c)
 unfold RW.add
 split
 ·rename_i q;exact⟨m,fun u=>absurd u q⟩
 ·split
  ·exact⟨m,fun u=>by simp at u⟩
  ·rename_i hl
   split
   ·exact⟨m,fun u=>by simp at u⟩
   ·have hw:=h.width
    have hp:=uV l
    have hln:(l.length:Int)=w.b.width:=Classical.not_not.1 hl
    split
    ·rename_i hr
     have:=(gm w.b)
     refine⟨⟨?_,?_,?_,h.width,h.name⟩,fun _=>⟨rfl,Nat.succ_pos _⟩⟩
     ·show (w.wait++dL (dh l)).length≤129*(w.n+1)
      have:=h.wait
      rw[List.length_append,dH]
      omega
     ·show w.n+1≤504
      omega
     ·show w.rows+1≤c+1
      have:=h.rows;omega
    ·unfold RW.out
     rw[if_neg (by show w.n+1≠0;omega)]
     refine⟨⟨Nat.zero_le _,Nat.zero_le _,by show w.rows+1≤c+1;have:=h.rows;omega,?_,?_⟩,fun _=>⟨rfl,Nat.succ_pos _⟩⟩
     ·show 0≤((w.push l).b.dE _).width∧((w.push l).b.dE _).width≤16
      rw[(Rb.jR _ _).2.1];exact h.width
     ·show ((w.push l).b.dE _).name=n
      rw[(Rb.jR _ _).2.2];exact h.name
section
variable {H0 A:aa} {F0 F:Nat→Prop} {col:Nat→Nat} {p dp:Nat} {s:Pl} {xs:List tz} {l:Sl} {kw:Nat} {w:RW} {sw sl:Sl} {kh:Nat} {hs:Sl} {L:List Hx}
theorem qw.add [Tab] {K:Int→aa→Prop} {row:Sl} {y:List Int} {to:ByteArray} {c u v:Nat} (h:qw H0 F0 col p dp F A s xs l kw w sw sl kh hs L) (hg:Gl H0) (h0:¬F0 aY) (ok:qp w to c) (hc:c<1000000000000) (hto:to.size≤9223372036854775807) (b:Bd s u v) (hu:u<1000000000000) (hv:v<68719460000) (hy:y.length≤16)
  (hrow:Ints .u64 A row y) (hoff:∀ad,row.a=some ad→col ad.block=3)
  (hK:∀F' B col' sw' sl',qw H0 F0 col' p dp F' B (w.add s y).1 xs l kw (w.add s y).2.1 sw' sl' kh hs L→A.size≤B.size→(∀b,b<A.size→col b≠0→col b≠2→col' b=col b∧B[b]?=A[b]?)→K (w.add s y).2.2 B):y7.sp (aI kw) row A K:=by
 have hgA:=h.rds.gl hg h0
 have hgl:=hg.lt
 have dis:∀b,F b→¬kz kw sw sl b:=fun b hb q=>by
  have:=(h.rds.cF b hb).1
  have:=(h.cW b q).1
  omega
 have hlo:=b.lo
 have hhi:=b.hi
 have hlg:=b.aH
 have o1:=ok.wait
 have o2:=ok.n
 have o3:=ok.rows
 refine Ak hgA (fun q=>(h.cW _ q).2.elim h0 fun u=>by omega) h.wr h.rds.pool dis hrow (fun ad ha q=>by have:=hoff ad ha;have:=(h.cW _ q).1;omega) (by omega) (by omega) (by omega) (by omega) (by rw[ok.name];exact hto) (by omega) (by omega) hlo b.fit fun F' sw' sl' B q1 q2 q3 S=>?_
 have hcol:∃col':Nat→Nat,(∀b,F' b→col' b=0)∧(∀b,kz kw sw' sl' b→col' b=2)∧∀b,¬F' b→¬kz kw sw' sl' b→col' b=col b:=by
  classical
  refine⟨fun b=>if F' b then 0 else if kz kw sw' sl' b then 2 else col b,fun b hb=>if_pos hb,fun b hb=>?_,fun b h1 h2=>?_⟩
  ·show (if F' b then _ else _)=_
   rw[if_neg fun q=>q3 b q hb,if_pos hb]
  ·show (if F' b then _ else _)=_
   rw[if_neg h1,if_neg h2]
 obtain⟨col',c1,c2,c3⟩:=hcol
 have z0:=h.rds.mod.size
 have old:∀b,b<A.size→F' b∨kz kw sw' sl' b→col b=0∨col b=2:=fun b hb q=>by
  rcases (S.own b q).resolve_right (by omega) with u|u
  ·exact .inl (h.rds.cF b u).1
  ·exact .inr (h.cW b u).1
 have same:∀b,b<A.size→col b≠0→col b≠2→col' b=col b:=fun b hb n0 n2=>c3 b (fun q=>by rcases old b hb (.inl q) with u|u<;>omega) fun q=>by rcases old b hb (.inr q) with u|u<;>omega
 have base:∀b,F' b∨kz kw sw' sl' b→F0 b∨H0.size≤b:=fun b q=>by
  rcases S.own b q with (u|u)|u
  ·exact(h.rds.cF b u).2
  ·exact(h.cW b u).2
  ·exact .inr (by omega)
 have hG:∀b,b<A.size→(F b∨kz kw sw sl b)→col b=0∨col b=2:=fun b _ q=>q.imp (fun u=>(h.rds.cF b u).1) fun u=>(h.cW b u).1
 refine hK F' B col' sw' sl' ⟨h.rds.sQ q1 S.mod (fun b hb q=>by have:=hG b hb q;omega) (fun b hb q=>?_) (fun b hb=>⟨c1 b hb,base b (.inl hb)⟩) (fun b hb q=>same b hb (by omega) (by omega)),q2,h.DB S.mod (fun b hb q=>by have:=hG b hb q;omega),fun b hb=>⟨c2 b hb,base b (.inr hb)⟩,fun b hb=>?_,fun x hx b hb=>?_,h.ptr,h.ord⟩ S.mod.size fun b hb n0 n2=>⟨same b hb n0 n2,S.mod.same b hb fun q=>by have:=hG b hb q;omega⟩
 ·rcases q with u|u
  ·exact(h.rds.cF b u).2.resolve_right (by omega)
  ·exact(h.cW b u).2.resolve_right (by omega)
 ·have a:=h.cH b hb
  rw[same b (h.heap.lt b hb) (by omega) (by omega)];exact a
 ·have a:=h.cX x hx b hb
  rw[same b ((h.heap.own x hx).lt b hb) (by omega) (by omega)];exact a
theorem eK.stop [Tab] {K:Unit→aa→Prop} {i:Nat} {x:tz} (h:eK H0 F0 col p dp F A s xs l) (hx:xs[i]?=some x)
  (hK:∀B,eK H0 F0 col p dp F B s (xs.set i ⟨x.k,x.r.stop,x.si,x.srs⟩) l→Mod (fun b=>b=x.k) A B→K () B):Gt.sp (aI x.k) A K:=by
 refine Gt.of ?_
 unfold Gt.vc
 unfold aI
 refine aZ rfl ?_
 simp only[av,add_add,Nat.reduceAdd]
 have hr:=h.rds i x hx
 have hi:=(List.getElem?_eq_some_iff.1 hx).1
 have ck:∀b,b=x.k→col b=5+i∧H0.size≤b:=fun b q=>h.cR i x hx b (.inl q)
 refine ag.st hr.row (i:=5) (by simp[bZ]) rfl fun B r m z=>?_
 rw[nr] at r
 have aq:∀(j:Nat) (y:tz),j≠i→xs[j]?=some y→∀b,y.own b→¬(b=x.k):=fun j y hj hy b hb q=>by
  have:=(h.cR j y hy b hb).1
  have:=(ck b q).1
  omega
 refine hK B ⟨h.pool.aq fun b hb hl=>m.same b hl fun q=>?_,fun j y hy=>?_,fun y hy=>?_,?_,h.cF,fun j y hy b hb=>?_,h.cL,?_⟩ m
 ·have:=(h.cF b hb).1
  have:=(ck b q).1
  omega
 ·by_cases q:j=i
  ·subst q
   rw[List.getElem?_set_self hi] at hy
   cases hy
   exact⟨r,hr.ins.mod m (fun b hb q=>hr.I1 (q▸hb)) fun y hy b hb q=>hr.v7 y hy (q▸hb)⟩
  ·rw[List.getElem?_set_ne (Ne.symm q)] at hy
   exact(h.rds j y hy).mod m (aq j y q hy)
 ·rcases List.mem_or_eq_of_mem_set hy with q|q
  ·exact h.oks y q
  ·subst q
   obtain⟨o,n⟩:=h.oks x (List.mem_of_getElem? hx)
   exact⟨⟨o.room,o.at_,o.page,o.rows,o.cols⟩,n⟩
 ·have e:(xs.set i ⟨x.k,x.r.stop,x.si,x.srs⟩).map (·.k)=xs.map (·.k):=by
   rw[List.map_set]
   apply List.ext_getElem?
   intro j
   rw[List.getElem?_set]
   split
   ·rename_i q
    subst q
    rw[List.getElem?_map,hx]
    simp[hi]
   ·rfl
  rw[e]
  exact h.list.mod m fun b hb q=>by
   have:=(h.cL b hb).1
   have:=(ck b q).1
   omega
 ·by_cases q:j=i
  ·subst q
   rw[List.getElem?_set_self hi] at hy
   cases hy
   exact h.cR j x hx b hb
  ·rw[List.getElem?_set_ne (Ne.symm q)] at hy
   exact h.cR j y hy b hb
 ·exact h.mod.trans' m fun b hb q=>by have:=(ck b q).2;omega
end
theorem o0 [Tab]:∀{rs:List RR} {i:Nat} {r r':RR},rs[i]?=some r→dg (rs.set i r')+(r.rows - r.at_)=dg rs+(r'.rows - r'.at_)
 |[],i,r,r',h=>by simp at h
 |a::rs,0,r,r',h=>by
   simp at h;subst h
   unfold dg
   simp only[List.set_cons_zero,List.map_cons,List.sum_cons]
   omega
 |a::rs,i+1,r,r',h=>by
   have:=o0 (rs:=rs) (i:=i) (r':=r') (by simpa using h)
   unfold dg at this ⊢
   simp only[List.set_cons_succ,List.map_cons,List.sum_cons]
   omega
theorem py [Tab]:∀{hs:List (Option (List Int))} {i:Nat} {a b:Option (List Int)},hs[i]?=some a→fZ (hs.set i b)+(if a.isSome then 1 else 0)=fZ hs+(if b.isSome then 1 else 0)
 |[],i,a,b,h=>by simp at h
 |c::hs,0,a,b,h=>by
   simp at h;subst h
   unfold fZ
   simp only[List.set_cons_zero,List.map_cons,List.sum_cons]
   omega
 |c::hs,i+1,a,b,h=>by
   have:=py (hs:=hs) (i:=i) (b:=b) (by simpa using h)
   unfold fZ at this ⊢
   simp only[List.set_cons_succ,List.map_cons,List.sum_cons]
   omega
theorem yN (k:Nat):fZ (List.replicate k none)=0:=by
 induction k with
 |zero=>rfl
 |succ k ih=>
   unfold fZ at ih ⊢
   rw[List.replicate_succ,List.map_cons,List.sum_cons,ih];rfl
theorem RR.lW [Tab] {r:RR} (h:r.Ok) (s:Pl):((r.next s).2.1.rows - (r.next s).2.1.at_)+(if (fL (r.next s).2.2.1 (r.next s).2.2.2.1).isSome then 1 else 0)=r.rows - r.at_:=by
 obtain⟨_,_,k1,k2,k3⟩:=RR.mr h s
 have ha:=h.at_
 unfold fL
 cases e:(r.next s).2.2.2.1 with
 |true=>
   obtain⟨q1,q2,_⟩:=k2 e
   rw[k1,q2]
   simp
   omega
 |false=>
   rw[k1,k3 e]
   simp
structure eT [Tab] (xs0:List tz) (s0:Pl) (i:Nat) (s:Pl) (xs:List tz) (L:List Hx) (hs:List (Option (List Int))):Prop where
 len:xs.length=xs0.length
 hlen:hs.length=xs0.length
 xl:xs.drop i=xs0.drop i
 rest:hs.drop i=List.replicate (xs0.length - i) none
 heads:ct L hs
 eq:bj (xs0.map (·.r)) s0=((bj ((xs.drop i).map (·.r)) s).1,(xs.take i).map (·.r)++(bj ((xs.drop i).map (·.r)) s).2.1,hs.take i++(bj ((xs.drop i).map (·.r)) s).2.2.1,(bj ((xs.drop i).map (·.r)) s).2.2.2)
 count:dg (xs.map (·.r))+fZ hs≤dg (xs0.map (·.r))
theorem eT.first [Tab] (xs:List tz) (s:Pl):eT xs s 0 s xs [] (List.replicate xs.length none):=
 ⟨rfl,List.length_replicate,rfl,by simp,.nil _,by simp,by rw[yN];exact Nat.le_refl _⟩
section
variable {xs0 xs:List tz} {s0 s:Pl} {i:Nat} {L L':List Hx} {hs:List (Option (List Int))} {y y':tz}
theorem eT.at_ [Tab] (h:eT xs0 s0 i s xs L hs) (hi:i<xs0.length):∃y,xs[i]?=some y∧hs[i]?=some none∧(∀x∈L,x.no≠i)∧xs.drop i=y::xs.drop (i+1):=by
 have hix:i<xs.length:=by rw[h.len];exact hi
 have hn:hs[i]?=some none:=by
  have:(hs.drop i)[0]?=some none:=by rw[h.rest,List.getElem?_replicate,if_pos (by omega)]
  rwa [List.getElem?_drop,Nat.add_zero] at this
 refine⟨xs[i],List.getElem?_eq_getElem hix,hn,fun x hx q=>?_,List.drop_eq_getElem_cons hix⟩
 have:=(h.heads.mem i x.row).2 ⟨x,hx,q,rfl⟩
 rw[hn] at this;simp at this
theorem eT.next [Tab] (h:eT xs0 s0 i s xs L hs) (hi:i<xs0.length) (hy:xs[i]?=some y) (ok:y.r.Ok) (hy':y'.r=(y.r.next s).2.1) (he:(y.r.next s).2.2.2.2=0)
  (h1:(y.r.next s).2.2.2.1=true→∃row ptr,L'.Perm (L++[⟨i,row,ptr,(y.r.next s).2.2.1⟩])) (h2:(y.r.next s).2.2.2.1=false→L'=L):
  eT xs0 s0 (i+1) (y.r.next s).1 (xs.set i y') L' (hs.set i (fL (y.r.next s).2.2.1 (y.r.next s).2.2.2.1)):=by
 obtain⟨y0,a1,a2,a3,a4⟩:=h.at_ hi
 rw[hy] at a1;cases a1
 have hix:i<xs.length:=by rw[h.len];exact hi
 have hih:i<hs.length:=by rw[h.hlen];exact hi
 have d1:(xs.set i y').drop (i+1)=xs.drop (i+1):=List.drop_set_of_lt (by omega)
 have t1:(xs.set i y').take (i+1)=xs.take i++[y']:=by
  rw[List.take_succ_eq_append_getElem (by simpa using hix)]
  rw[List.take_set_of_le (Nat.le_refl _)]
  simp
 have t2:∀v:Option (List Int),(hs.set i v).take (i+1)=hs.take i++[v]:=fun v=>by
  rw[List.take_succ_eq_append_getElem (by simpa using hih)]
  rw[List.take_set_of_le (Nat.le_refl _)]
  simp
 have hd:ct L' (hs.set i (fL (y.r.next s).2.2.1 (y.r.next s).2.2.2.1)):=by
  cases e:(y.r.next s).2.2.2.1 with
  |true=>
    obtain⟨row,ptr,hP⟩:=h1 e
    exact h.heads.push (x:=⟨i,row,ptr,(y.r.next s).2.2.1⟩) hih a3 hP
  |false=>
    rw[h2 e]
    have:hs.set i (fL (y.r.next s).2.2.1 false)=hs:=by
     apply List.ext_getElem?
     intro j
     rw[List.getElem?_set]
     split
     ·rename_i q
      subst q
      rw[a2];rfl
     ·rfl
    rw[this];exact h.heads
 refine⟨by rw[List.length_set];exact h.len,by rw[List.length_set];exact h.hlen,?_,?_,hd,?_,?_⟩
 ·rw[d1]
  have:=congrArg (List.drop 1) h.xl
  rwa [List.drop_drop,List.drop_drop] at this
 ·rw[List.drop_set_of_lt (by omega)]
  have:=congrArg (List.drop 1) h.rest
  rw[List.drop_drop,List.drop_replicate] at this
  rw[this]
  rfl
 ·rw[h.eq,a4,List.map_cons,d1,t1,t2]
  simp only[bj]
  rw[if_neg (by rw[he];simp)]
  simp[hy']
 ·have c1:=o0 (rs:=xs.map (·.r)) (i:=i) (r:=y.r) (r':=y'.r) (by rw[List.getElem?_map,hy];rfl)
  have c2:=py (i:=i) (b:=fL (y.r.next s).2.2.1 (y.r.next s).2.2.2.1) a2
  have c3:=RR.lW ok s
  have c4:=h.count
  rw[List.map_set]
  rw[hy'] at c1 ⊢
  simp only[Option.isSome_none] at c2
  simp only[Bool.false_eq_true,if_false,Nat.add_zero] at c2
  omega
theorem eT.bad [Tab] (h:eT xs0 s0 i s xs L hs) (hi:i<xs0.length) (hy:xs[i]?=some y) (he:(y.r.next s).2.2.2.2≠0):(bj (xs0.map (·.r)) s0).1=(y.r.next s).1∧(bj (xs0.map (·.r)) s0).2.2.2=(y.r.next s).2.2.2.2:=by
 obtain⟨y0,a1,a2,a3,a4⟩:=h.at_ hi
 rw[hy] at a1;cases a1
 rw[h.eq,a4,List.map_cons]
 simp only[bj]
 rw[if_pos he]
 exact⟨rfl,rfl⟩
theorem eT.done [Tab] (h:eT xs0 s0 xs0.length s xs L hs):bj (xs0.map (·.r)) s0=(s,xs.map (·.r),hs,0):=by
 have e:=h.eq
 rw[←h.len,List.drop_length,List.take_length,h.len,←h.hlen,List.take_length] at e
 simpa[bj] using e
end
structure vw [Tab] (H0:aa) (F0:Nat→Prop) (p dp:Nat) (A:aa) (l:Sl) (kw kh:Nat) (to:ByteArray) (f0 u v:Nat) (res:Pl×Nat×Int) (f:Nat) (z:Sl×Bool):Prop where
 ex:∃col F s xs w sw sl hs L hl,qw H0 F0 col p dp F A s xs l kw w sw sl kh hs L∧ct L hl∧hl.length=xs.length∧xs.length≤1000000∧dg (xs.map (·.r))+fZ hl<f∧res=ib f s (xs.map (·.r)) hl w∧qp w to (f0 - f)∧Bd s (u+2*(f0 - f)) (v+3*(f0 - f))∧f≤f0∧z.2=decide (w.rows=0)∧(w.rows≠0→au A 0 fx 1 z.1 (w.last.map (Value.int .u64))∧w.last.length≤16∧∀b,ai z.1 b→col b=3)
theorem qw.J8 [Tab] {H0 A:aa} {F0 F:Nat→Prop} {col col':Nat→Nat} {p dp:Nat} {s:Pl} {xs:List tz} {l:Sl} {kw:Nat} {w:RW} {sw sl:Sl} {kh:Nat} {hs:Sl} {L:List Hx} (h:qw H0 F0 col p dp F A s xs l kw w sw sl kh hs L) (hc:∀b,b<A.size→col' b=col b):qw H0 F0 col' p dp F A s xs l kw w sw sl kh hs L:=
 ⟨h.rds.sQ (G:=fun _=>False) h.rds.pool (.refl _ _) (fun _ _ q=>q.elim) (fun _ _ q=>q.elim) (fun b hb=>by rw[hc b (h.rds.pool.lt b hb)];exact h.rds.cF b hb) (fun b hb _=>hc b hb),h.wr,h.heap,
  fun b hb=>by rw[hc b (h.wr.lt b hb)];exact h.cW b hb,fun b hb=>by rw[hc b (h.heap.lt b hb)];exact h.cH b hb,fun x hx b hb=>by rw[hc b ((h.heap.own x hx).lt b hb)];exact h.cX x hx b hb,h.ptr,h.ord⟩
section
variable {H:aa} {F:Nat→Prop} {p dp:Nat} {s:Pl} {names:Sl} {ns:List ByteArray} {to:ByteArray} {W:Int}
set_option maxHeartbeats 2000000 in
theorem Bi [Tab] {K:(Int×Int)→aa→Prop} {A:aa} {l:Sl} {kw kh f0 f u v:Nat} {res:Pl×Nat×Int} (hg:Gl H) (h0:¬F aY) (hto:to.size≤9223372036854775807) (hf0:f0≤2000000000) (hu:u<900000000000) (hv:v<60000000000)
  (h:vw H F p dp A l kw kh to f0 u v res f (Sl.mk none 0 0,true))
  (hK:∀F' B,al F' B p dp res.1→Step F F' H B→K ((res.2.1:Int),res.2.2) B):
  aC (Sl×Bool) ((Sl.mk none 0 0),true) A fun next_1 z_1 H6=>ld an H6 ((⟨kh,0,none⟩:Addr).add 0) fun(x:Sl)=>br (decide ((x.n:Int)>(0:Int))) (Hw.sp (some ⟨kh,0,none⟩) H6 fun(r_3:(Int×Sl×Option Addr)) H7=>aD H7 (zc Tryz.prog jO) jO fun p_1 H8=>iI Tryz.prog (Instr.storeAt jO (.pointer (some p_1)) (.agg #[(.int .i64 r_3.1),r_3.2.1.v,(.pointer r_3.2.2)])) H8 fun H9=>cut Unit (fun J=>br z_1.2 (ld an H9 (p_1.add 1) fun(x_1:Sl)=>y7.sp (aI kw) x_1 H9 fun(e_1:Int) H11=>br (e_1 !=(0:Int)) (K ((0:Int),e_1) H11) (J () H11)) (ld an H9 (p_1.add 1) fun(x_2:Sl)=>ve.sp x_2 z_1.1 H9 fun(r_4:Int) H12=>br (r_4 !=(0:Int)) (ld an H12 (p_1.add 1) fun(x_3:Sl)=>y7.sp (aI kw) x_3 H12 fun(e_2:Int) H13=>br (e_2 !=(0:Int)) (K ((0:Int),e_2) H13) (J () H13)) (J () H12))) fun(_:Unit) H10=>ld an H10 (p_1.add 1) fun(last:Sl)=>db (bq [(ab .i64),an,ar]) 3 H10 p_1 fun(x_4:(Int×Sl×Option Addr))=>FI.sp (some ⟨kh,0,none⟩) x_4.1 x_4.2.1 x_4.2.2 H10 fun(e_3:Int) H14=>br (e_3 !=(0:Int)) (K ((0:Int),e_3) H14) (next_1 (last,false) H14)) (aC Int (0:Int) H6 fun next_2 z_3 H15=>br (decide (z_3<(l.n:Int))) (ae l.a fun a_1=>(0≤z_3∧z_3<(l.n:Int))∧ld ar H15 (a_1.add (z_3.toNat*1)) fun(r_5:Option Addr)=>Gt.sp r_5 H15 fun(_:Unit) H16=>next_2 (IntKind.i64.wrap (z_3+(1:Int))) H16) (Ed.sp (aI kw) H15 fun(r_7:(Int×Int)) H17=>K (r_7.1,r_7.2) H17)):=by
 refine⟨Nat,fun f z A=>vw H F p dp A l kw kh to f0 u v res f z,fun f=>f,⟨f,h⟩,?_⟩
 rintro f ⟨last,fst⟩ A ⟨col,F',s',xs,w,sw,sl,hs,L,hl,hM,hT,hlen,hxl,hf,hres,hw,bd,hff,hfst,hlast⟩
 simp only at hfst hlast
 cases f with
 |zero=>exact absurd hf (Nat.not_lt_zero _)
 |succ f=>
 have hgl:=hg.lt
 refine ag.ld (c:=an) (i:=0) (x:=hs) hM.heap.row rfl ?_
 have hn:hs.n=L.length:=bc.n hM.heap.els (by decide)
 have hLl:L.length≤1000000:=by have:=hT.len;omega
 cases hLc:L with
 |nil=>
   rw[hLc] at hn
   refine aA (by rw[hn];rfl) ?_
   have hb:eQ hl=none:=by rw[hLc] at hT;exact hT.empty
   have er:res=((w.close s').1,(w.close s').2.2.1,(w.close s').2.2.2):=by
    rw[hres]
    unfold ib
    rw[hb]
   rw[er] at hK
   refine aB xs.length (fun i z B=>z=(i:Int)∧∃ys,ys.length=xs.length∧eK H F col p dp F' B s' ys l∧pI B kw p w sw sl) ⟨rfl,xs,rfl,hM.rds,hM.wr⟩ ?_
   rintro i z B next hi ⟨rfl,ys,hyl,hR,hWr⟩ hnext
   have hln:l.n=ys.length:=by rw[bc.n hR.list (by decide)];simp
   refine aj (fun hc=>?_) (fun hc=>?_)
   ·have hlt : i < ys.length := by have : (i : Int) < (l.n : Int) := by simpa using hc
                                   omega
    have hy:ys[i]?=some ys[i]:=List.getElem?_eq_getElem hlt
    refine gJ.one (E:=eP) (c:=ar) (y:=aI ys[i].k) hR.list.rd (by rw[hln];simp) rfl (i:=i) (x:=ys[i].k) (by rw[List.getElem?_map,hy];rfl) rfl ?_
    refine hR.stop hy fun C hC mC=>?_
    rw[aP i (by omega)]
    exact hnext (by omega) _ C ⟨rfl,_,by simp;exact hyl,hC,hWr.mod mC fun b hb q=>by
     have:=(hM.cW b hb).1
     have:=(hR.cR i _ hy b (.inl q)).1
     omega⟩
   ·have hgB:=hR.gl hg h0
    have q1:=bd.lo
    have q2:=bd.hi
    have q3:=bd.aH
    have o:=bd.out (w:=w) (by omega)
    have o1:=o.hi
    have o2:=o.aH
    refine tZ hgB (fun q=>(hM.cW _ q).2.elim h0 fun r=>by omega) hWr hR.pool (fun b hb q=>by have:=(hR.cF b hb).1;have:=(hM.cW b q).1;omega) (by have:=hw.rows;omega) hw.width.1 (by rw[hw.name];exact hto) (by omega) (by omega) q1 bd.fit (by omega) (by omega) (fun x hd=>?_) fun F2 sw' C p2 w2 d2 S2=>?_
    ·rw[Pl.AE,Pl.DC]
     have:=(w.out s').1.nc w.b.name 0
     omega
    ·refine hK F2 C p2 ⟨hR.mod.trans' S2.mod fun b hb q=>?_,fun b hb=>?_⟩
     ·rcases q with r|r
      ·exact(hR.cF b r).2.resolve_right (by omega)
      ·exact(hM.cW b r).2.resolve_right (by omega)
     ·rcases S2.own b (.inl hb) with (r|r)|r
      ·exact(hR.cF b r).2
      ·exact(hM.cW b r).2
      ·have:=hR.mod.size
       exact .inr (by omega)
 |cons top L0=>
   have ht:L[0]?=some top:=by rw[hLc];rfl
   have mt:=List.mem_of_getElem? ht
   have hb:=hT.top hM.ord ht
   refine aZ (by rw[hn,hLc];simp) ?_
   obtain⟨y,hy,hptr⟩:=hM.ptr top mt
   refine Gs hM.heap hM.ord ht hLl fun hs' L' A1 hA hO hP mA oA=>?_
   have mem':∀x∈L',x∈L:=fun x hx=>hP.mem_iff.2 (List.mem_cons_of_mem _ hx)
   obtain⟨col1,c1,hM1⟩:=hM.C6 hA hO mA (fun b hb=>.inl (oA b hb)) (fun x hx b hb=>⟨(hM.heap.own x (mem' x hx)).lt b hb,hM.cX x (mem' x hx) b hb⟩) fun x hx=>hM.ptr x (mem' x hx)
   have ownT:=hM.heap.own top mt
   have offH:∀b,col b=3→¬(b=kh∨ai hs b):=fun b hb q=>by have:=(hM.cH b q).1;omega
   have ownT1:au A1 0 fx 1 top.sl (top.row.map (Value.int .u64)):=ownT.mod mA fun b hb=>offH b (hM.cX top mt b hb)
   have cT1:∀b,ai top.sl b→col1 b=3:=fun b hb=>by rw[c1 b (ownT.lt b hb)];exact hM.cX top mt b hb
   refine ak fun A2 z2 r2 e2=>?_
   refine ag.kM (cs:=(CK top).toArray) r2 kW vg (fun x hx=>JC.one top x (show x∈CK top by simpa using hx)) fun A3 r3 m3 z3=>?_
   have e3:Ext A1 A3:=⟨by have:=m3.size;omega,fun b hb _=>(m3.same b (by omega) (by intro q;have:b=A1.size:=q;omega)).trans (e2.same b hb id)⟩
   obtain⟨colx,x1,x2⟩:=nF col1 A1.size (fun _=>False) (fun _=>False) (fun _=>True) 1 1 3 (fun _ q=>q.elim) (fun _ q=>q.elim) fun _ q=>q.elim
   have hM3:=(hM1.J8 x1).ext e3
   have cT3:∀b,ai top.sl b→colx b=3:=fun b hb=>by rw[x1 b (ownT1.lt b hb)];exact cT1 b hb
   have ownT3:=ownT1.ext e3
   obtain⟨hT',hne⟩:=hT.pop hP
   have f16:=hM.heap.few top mt
   have htl:top.no<hl.length:=by
    have:=(hT.mem top.no top.row).2 ⟨top,mt,rfl,rfl⟩
    exact(List.getElem?_eq_some_iff.1 this).1
   have er:res=if (bg s' w top.row).2.2≠0 then ((bg s' w top.row).1,0,(bg s' w top.row).2.2)
    else if (y.r.next (bg s' w top.row).1).2.2.2.2≠0 then ((y.r.next (bg s' w top.row).1).1,0,(y.r.next (bg s' w top.row).1).2.2.2.2)
    else ib f (y.r.next (bg s' w top.row).1).1 ((xs.map (·.r)).set top.no (y.r.next (bg s' w top.row).1).2.1) (hl.set top.no (fL (y.r.next (bg s' w top.row).1).2.2.1 (y.r.next (bg s' w top.row).1).2.2.2.1)) (bg s' w top.row).2.1:=by
    have hgj:(xs.map (·.r)).getD top.no default=y.r:=by rw[List.getD,List.getElem?_map,hy];rfl
    rw[hres]
    show (match eQ hl with|none=>_|some (i,x)=>_)=_
    rw[hb]
    simp only
    rw[hgj]
   have zA3:A.size≤A3.size:=by have:=mA.size;have:=e3.size;omega
   have old3:∀b,b<A.size→col b=3→A3[b]?=A[b]?:=fun b hb hc=>(e3.same b (by have:=mA.size;omega) id).trans (mA.same b hb (offH b hc))
   refine⟨fun _ B=>(bg s' w top.row).2.2=0∧∃col2 F2 sw2 sl2,qw H F col2 p dp F2 B (bg s' w top.row).1 xs l kw (bg s' w top.row).2.1 sw2 sl2 kh hs' L'∧qp (bg s' w top.row).2.1 to (f0 - f)∧(bg s' w top.row).2.1.last=top.row∧0<(bg s' w top.row).2.1.rows∧Bd (bg s' w top.row).1 (u+2*(f0 - (f+1))+1) (v+3*(f0 - (f+1))+2)∧
    ag B A1.size jO (CK top).toArray∧au B 0 fx 1 top.sl (top.row.map (Value.int .u64))∧(∀b,ai top.sl b→col2 b=3)∧A3.size≤B.size,?_,?_⟩
   ·have added:∀(Kb:Int→aa→Prop),(bg s' w top.row)=w.add s' top.row→(∀B,(w.add s' top.row).2.2≠0→(∃F2,al F2 B p dp (w.add s' top.row).1∧Step F F2 H B)→Kb (w.add s' top.row).2.2 B)→
      (∀B,((bg s' w top.row).2.2=0∧∃col2 F2 sw2 sl2,qw H F col2 p dp F2 B (bg s' w top.row).1 xs l kw (bg s' w top.row).2.1 sw2 sl2 kh hs' L'∧qp (bg s' w top.row).2.1 to (f0 - f)∧(bg s' w top.row).2.1.last=top.row∧0<(bg s' w top.row).2.1.rows∧Bd (bg s' w top.row).1 (u+2*(f0 - (f+1))+1) (v+3*(f0 - (f+1))+2)∧
       ag B A1.size jO (CK top).toArray∧au B 0 fx 1 top.sl (top.row.map (Value.int .u64))∧(∀b,ai top.sl b→col2 b=3)∧A3.size≤B.size)→(w.add s' top.row).2.2=0→Kb (w.add s' top.row).2.2 B)→y7.sp (aI kw) top.sl A3 Kb:=by
     intro Kb ea k1 k2
     refine hM3.add hg h0 hw (by omega) hto bd (by omega) (by omega) f16 ownT3.ints (fun ad ha=>cT3 _ ⟨ad,ha,rfl⟩) fun F2 B col2 sw2 sl2 hB zB oB=>?_
     by_cases e0:(w.add s' top.row).2.2=0
     ·have ra:=hw.add s' top.row
      have hp1:=oB A1.size (by omega) (by rw[(x2 A1.size (Nat.le_refl _)).2.2 trivial];decide) (by rw[(x2 A1.size (Nat.le_refl _)).2.2 trivial];decide)
      refine k2 B ?_ e0
      rw[ea]
      refine⟨e0,col2,F2,sw2,sl2,hB,ra.1.mono (by omega),(ra.2 e0).1,(ra.2 e0).2,bd.add (by omega) _,hp1.2.trans r3,ownT3.aq fun b hb hlt=>?_,fun b hb=>?_,zB⟩
      ·have c:=cT3 b hb
       exact(oB b hlt (by omega) (by omega)).2
      ·have c:=cT3 b hb
       exact(oB b (ownT3.lt b hb) (by omega) (by omega)).1.trans c
     ·exact k1 B e0 ⟨F2,hB.rds.pool,hB.rds.step⟩
    have bad:∀B,(bg s' w top.row)=w.add s' top.row→(w.add s' top.row).2.2≠0→(∃F2,al F2 B p dp (w.add s' top.row).1∧Step F F2 H B)→K ((0:Int),(w.add s' top.row).2.2) B:=fun B ea e0 ⟨F2,p2,S2⟩=>by
     have er2:=er
     rw[ea,if_pos e0] at er2
     rw[er2] at hK
     exact hK F2 B p2 S2
    by_cases hr0:w.rows=0
    ·have ea:bg s' w top.row=w.add s' top.row:=by unfold bg;rw[if_pos (.inl hr0)]
     refine aZ (by rw[hfst];exact decide_eq_true hr0) ?_
     refine ag.ld (c:=an) (i:=1) (x:=top.sl) r3 rfl ?_
     refine added _ ea (fun B e0 q=>aZ (by simpa using e0) (bad B ea e0 q)) fun B hJ e0=>aA (by rw[e0];rfl) hJ
    ·refine aA (by rw[hfst];exact decide_eq_false hr0) ?_
     obtain⟨l1,l2,l3⟩:=hlast hr0
     refine ag.ld (c:=an) (i:=1) (x:=top.sl) r3 rfl ?_
     have l3':Ints .u64 A3 last w.last:=(l1.aq fun b hb hlt=>old3 b hlt (l3 b hb)).ints
     refine iE ownT3.ints l3' (by omega) ?_
     by_cases hcmp:aF top.row w.last=0
     ·have ea:bg s' w top.row=(s',w,0):=by unfold bg;rw[if_neg (by rintro(q|q);exact hr0 q;exact q hcmp)]
      refine aA (by rw[hcmp];rfl) ?_
      rw[ea]
      exact⟨rfl,colx,F',sw,sl,hM3,hw.mono (by omega),(cG.1 hcmp).symm,Nat.pos_of_ne_zero hr0,bd.mono (by omega) (by omega),r3,ownT3,cT3,Nat.le_refl _⟩
     ·have ea:bg s' w top.row=w.add s' top.row:=by unfold bg;rw[if_pos (.inr hcmp)]
      refine aZ (by simpa using hcmp) ?_
      refine ag.ld (c:=an) (i:=1) (x:=top.sl) r3 rfl ?_
      refine added _ ea (fun B e0 q=>aZ (by simpa using e0) (bad B ea e0 q)) fun B hJ e0=>aA (by rw[e0];rfl) hJ
   ·rintro _ B ⟨e0,col2,F2,sw2,sl2,hB,rw2,hla,hro,bd2,rB,oB,cB,zB⟩
    rw[if_neg (by rw[e0];simp)] at er
    generalize bg s' w top.row=a at*
    refine ag.ld (c:=an) (i:=1) (x:=top.sl) rB rfl ?_
    refine ag.db (x:=((top.no:Int),top.sl,top.ptr)) rB rfl rfl ?_
    rw[hptr]
    refine xO hB hg h0 hy bd2 (by omega) (by omega) (by have:=hP.length_eq;simp at this;omega) fun F3 C col3 y' hs2 L2 hC q2 q3 q4 q5 q6 q7=>?_
    by_cases e1:(y.r.next a.1).2.2.2.2=0
    ·rw[if_neg (by rw[e1];simp)] at er
     refine aA (by rw[e1];rfl) ?_
     have bd3:=bd2.next (r:=y.r) (by omega)
     have hset:(hl.set top.no none).set top.no (fL (y.r.next a.1).2.2.1 (y.r.next a.1).2.2.2.1)=hl.set top.no (fL (y.r.next a.1).2.2.1 (y.r.next a.1).2.2.2.1):=List.set_set _
     have hd:ct L2 (hl.set top.no (fL (y.r.next a.1).2.2.1 (y.r.next a.1).2.2.2.1)):=by
      cases e:(y.r.next a.1).2.2.2.1 with
      |true=>
        obtain⟨row,ptr,hP2⟩:=q3 e
        rw[e] at hset
        rw[←hset]
        exact hT'.push (x:=⟨top.no,row,ptr,(y.r.next a.1).2.2.1⟩) (by simpa using htl) hne hP2
      |false=>
        rw[q4 e]
        exact hT'
     have c1:=o0 (rs:=xs.map (·.r)) (i:=top.no) (r:=y.r) (r':=y'.r) (by rw[List.getElem?_map,hy];rfl)
     have c2:=py (i:=top.no) (b:=fL (y.r.next a.1).2.2.1 (y.r.next a.1).2.2.2.1) ((hT.mem top.no top.row).2 ⟨top,mt,rfl,rfl⟩)
     have c3:=RR.lW (hM.rds.oks y (List.mem_of_getElem? hy)).1 a.1
     rw[q2] at c1
     simp only[Option.isSome_some,if_true] at c2
     refine⟨f,⟨col3,F3,_,xs.set top.no y',a.2.1,sw2,sl2,hs2,L2,_,hC,hd,by simp;exact hlen,by simp;exact hxl,?_,?_,rw2,bd3.mono (by omega) (by omega),by omega,(decide_eq_false (by omega)).symm,fun _=>⟨?_,by rw[hla];exact f16,fun b hb=>?_⟩⟩,Nat.lt_succ_self _⟩
     ·rw[List.map_set,q2];omega
     ·rw[er,List.map_set,q2]
     ·rw[hla]
      exact oB.aq fun b hb hlt=>q7 b hlt (cB b hb)
     ·rw[q5 b (oB.lt b hb)];exact cB b hb
    ·rw[if_pos e1] at er
     rw[er] at hK
     exact aZ (by simpa using e1) (hK F3 C hC.rds.pool hC.rds.step)
end
theorem Cw [Tab] {W:Int} {ns:List ByteArray} {s:Pl} {x y:Nat} (b:Bd s x y) (hl:ns.length≤1000000) (hx:x<900000000000):Bd (bf W ns s).1 (x+1000000) (y+1000000):=
 (rW (ns:=ns) (W:=W) b (by omega)).mono (by omega) (by omega)
theorem CE [Tab] {rs:List RR} {m:Pl×Option RW×Int} {w:RW} (h:m.2.1=some w):lN rs m=yL (bj rs m.1) w:=by unfold lN;rw[h]
section
variable {H:aa} {F:Nat→Prop} {p dp:Nat} {s:Pl} {names:Sl} {ns:List ByteArray} {to:ByteArray} {W:Int}
set_option maxHeartbeats 2000000 in
theorem Df [Tab] {K:(Int×Int)→aa→Prop} {x y N:Nat} (hg:Gl H) (hp:al F H p dp s) (hn:names.n=ns.length) (hns:∀A,Mod F H A→gJ vY A names.a ns) (hsz:∀n∈ns,n.size≤9223372036854775807) (hto:to.size≤9223372036854775807) (b:Bd s x y) (hl:ns.length≤1000000) (hx:x<800000000000) (hy:y<50000000000)
  (hN:dg (bf W ns s).2.1≤N) (hN1:N≤1000000000)
  (hK:∀F' A,al F' A p dp (dP s ns to W).1→Step F F' H A→K (((dP s ns to W).2.1:Int),(dP s ns to W).2.2) A):Iy.sp (aI p) names to W H K:=by
 refine Iy.of ?_
 unfold Iy.vc
 have hF0:=hp.fF
 have hgl:=hg.lt
 refine aA rfl ?_
 unfold dP at hK
 by_cases hne:ns=[]
 ·rw[if_pos hne] at hK
  refine aZ (by rw[hn,hne];rfl) ?_
  exact hK F H hp (.refl _ _)
 rw[if_neg hne] at hK
 have hnz:names.n≠0:=by rw[hn];exact fun q=>hne (List.eq_nil_of_length_eq_zero q)
 refine aA (by simpa using hnz) ?_
 have bO:=Cw (W:=W) b hl (by omega)
 refine Dr hg hp hn hns hsz b hl (by omega) (by omega) (fun e0 F1 A p1 S1=>?_) (fun e0 F1 A col xs l hR hr hlen=>?_)
 ·rw[if_pos e0] at hK
  exact aZ (by simpa using e0) (hK F1 A p1 S1)
 rw[if_neg (by rw[e0];simp)] at hK
 refine aA rfl ?_
 rw[←hr] at hK hN
 generalize (bf W ns s).1=s1 at*
 have hgA:=hR.gl hg hF0
 have q1:=bO.lo
 have q2:=bO.hi
 have q3:=bO.aH
 have bM:=bO.make (n:=to) (W:=W) (by omega)
 refine xN hgA hR.pool hto (by omega) (by omega) q1 bO.fit (fun F2 B p2 S2 o2=>?_) (fun F2 B kw w p2 S2 o2 w2 k1 k2=>?_)
 ·have e1:=nq.1 o2
  have em:lN (xs.map (·.r)) (bo s1 to W)=((bo s1 to W).1,0,(bo s1 to W).2.2):=by unfold lN;rw[o2]
  rw[em] at hK
  exact aZ (by simpa using e1) (hK F2 B p2 (hR.step.trans S2))
 obtain⟨e1,hw,W0,W16⟩:=nq.2 w o2
 subst hw
 rw[CE o2] at hK
 generalize (bo s1 to W).1=s2 at*
 rw[e1]
 refine aA rfl ?_
 refine ak fun C zC rC eC=>?_
 have zR:=hR.mod.size
 have zS:=S2.mod.size
 have wrk:∀b,kz kw dr dr b→b=kw:=by
  rintro b (q|q|q)
  ·exact q
  ·exact absurd q (bE b)
  ·exact absurd q (bE b)
 have kwl:=w2.lt kw (.inl rfl)
 obtain⟨col1,c1,c2⟩:=nF col A.size F2 (fun b=>b=kw) (fun b=>b=B.size) 0 2 1 (fun b q r=>k2 (r▸q)) (fun b q r=>by have:=p2.lt b q;omega) (fun b q r=>by omega)
 have hR2:=hR.sQ (col':=col1) p2 S2.mod (fun b hb q=>by rw[(hR.cF b q).1];decide) (fun b hb q=>(hR.cF b q).2.resolve_right (by omega)) (fun b q=>by
  rcases S2.own b q with r|r
  ·rw[c1 b (hR.pool.lt b r)];exact hR.cF b r
  ·exact⟨(c2 b r).1 q,.inr (by omega)⟩) fun b hb _=>c1 b hb
 have hM:qw H F col1 p dp F2 C s2 xs l kw (vi to W) dr dr B.size dr []:=by
  refine⟨hR2.ext eC,w2.mod eC fun _ _=>id,⟨rC,bc.nil _ _ _,fun x hx=>(by cases hx),fun x hx=>(by cases hx)⟩,fun b hb=>?_,fun b hb=>?_,fun x hx=>(by cases hx),fun x hx=>(by cases hx),fun i a b _ ha=>by simp at ha⟩
  ·have:=wrk b hb
   subst this
   exact⟨(c2 b k1).2.1 rfl,.inr (by omega)⟩
  ·rcases hb with q|q
   ·subst q
    exact⟨(c2 B.size (by omega)).2.2 rfl,by omega⟩
   ·exact absurd q (bE b)
 have hxl:xs.length≤1000000:=by omega
 have hln:l.n=xs.length:=by rw[bc.n hR.list (by decide)];simp
 refine aB xs.length (fun i z A=>z=(i:Int)∧∃F' s' col xs' L hs hsl,qw H F col p dp F' A s' xs' l kw (vi to W) dr dr B.size hsl L∧eT xs s2 i s' xs' L hs∧Bd s' (x+1000001+i) (y+1000002+i)) ⟨rfl,F2,s2,col1,xs,[],_,dr,hM,.first xs s2,bM⟩ ?_
 rintro i z A' next hi ⟨rfl,F3,s3,col3,xs3,L3,hs3,hsl3,hM3,hH,b3⟩ hnext
 refine aj (fun hc=>?_) (fun hc=>?_)
 ·have hlt : i < xs.length := by have : (i : Int) < (l.n : Int) := by simpa using hc
                                 omega
  obtain⟨yx,hyx,_⟩:=hH.at_ hlt
  have ok:=(hM3.rds.oks yx (List.mem_of_getElem? hyx)).1
  refine gJ.one (E:=eP) (c:=ar) (y:=aI yx.k) hM3.rds.list.rd (by rw[hln];simp[hH.len]) rfl (i:=i) (x:=yx.k) (by rw[List.getElem?_map,hyx];rfl) rfl ?_
  refine xO hM3 hg hF0 hyx b3 (by omega) (by omega) (by have:=hH.heads.len;have:=hH.hlen;omega) fun F4 B4 col4 y4 hs4 L4 hM4 r2 r3 r4 r5 r6 r7=>?_
  by_cases ee:(yx.r.next s3).2.2.2.2=0
  ·refine aA (by rw[ee];rfl) ?_
   rw[aP i (by omega)]
   exact hnext hlt _ B4 ⟨rfl,F4,_,col4,_,L4,_,hs4,hM4,hH.next hlt hyx ok r2 ee r3 r4,(b3.next (r:=yx.r) (by omega)).mono (by omega) (by omega)⟩
  ·obtain⟨d1,d2⟩:=hH.bad hlt hyx ee
   unfold yL at hK
   rw[if_pos (by rw[d2];exact ee),d1,d2] at hK
   exact aZ (by simpa using ee) (hK F4 B4 hM4.rds.pool hM4.rds.step)
 ·have hge : i = xs.length := by have : ¬ (i : Int) < (l.n : Int) := by simpa using hc
                                 omega
  subst hge
  have hd:=hH.done
  unfold yL at hK
  rw[hd] at hK
  simp only at hK
  rw[if_neg (by simp)] at hK
  have hcnt:=hH.count
  have hMA:vw H F p dp A' l kw B.size to (dg (xs3.map (·.r))+fZ hs3+1) (x+2000002) (y+2000004) (ib (dg (xs3.map (·.r))+fZ hs3+1) s3 (xs3.map (·.r)) hs3 (vi to W)) (dg (xs3.map (·.r))+fZ hs3+1) (Sl.mk none 0 0,true):=
   ⟨col3,F3,s3,xs3,vi to W,dr,dr,hsl3,L3,hs3,hM3,hH.heads,by rw[hH.hlen,hH.len],by rw[hH.len];exact hxl,Nat.lt_succ_self _,rfl,by rw[Nat.sub_self];exact EJ to W0 W16,b3.mono (by omega) (by omega),Nat.le_refl _,rfl,fun q=>absurd rfl q⟩
  exact Bi hg hF0 hto (by omega) (by omega) (by omega) hMA hK
end
theorem wP [Tab]:∀{L:List (List Int)} {s:Pl} {w:RW} {x y:Nat},Bd s x y→x+L.length<1000000000000→Bd (jH L s w).1 (x+L.length) (y+2*L.length)
 |[],s,w,x,y,h,_=>h
 |l::L,s,w,x,y,h,hx=>by
   rw[List.length_cons] at hx ⊢
   have h1:=h.add (w:=w) (by omega) l
   simp only[jH]
   split
   ·exact h1.mono (by omega) (by omega)
   ·exact(wP (L:=L) h1 (by omega)).mono (by omega) (by omega)
section
variable {A0:aa} {F:Nat→Prop} {p dp:Nat} {s:Pl} {name:ByteArray} {W:Int} {l:Sl} {qs:List Qr}
set_option maxHeartbeats 1000000 in
theorem Ds [Tab] {K:Int→aa→Prop} {x y:Nat} (hg:Gl A0) (hp:al F A0 p dp s) (hq:kI A0 l qs) (hlF:∀b,ai l b→¬F b) (hqF:∀q∈qs,∀b,ai q.1 b→¬F b) (hl:qs.length≤1000000) (hn:name.size≤9223372036854775807) (b:Bd s x y) (hx:x<800000000000) (hy:y<50000000000)
  (hK:∀F' B,al F' B p dp (jl s name W (qs.map (·.2))).1→Step F F' A0 B→K (jl s name W (qs.map (·.2))).2 B):
  Fm.sp (aI p) name W A0 fun(r_1:(Option Addr×Int)) H8=>br (r_1.2!=(0:Int)) (K r_1.2 H8) (aC Int (0:Int) H8 fun next z H9=>br (decide (z<(l.n:Int))) (ae l.a fun a_7=>(0≤z∧z<(l.n:Int))∧ld an H9 (a_7.add (z.toNat*1)) fun(x_5:Sl)=>y7.sp r_1.1 x_5 H9 fun(e:Int) H10=>br (e !=(0:Int)) (K e H10) (next (IntKind.i64.wrap (z+(1:Int))) H10)) (Ed.sp r_1.1 H9 fun(r_2:(Int×Int)) H11=>K r_2.2 H11)):=by
 have q1:=b.lo
 have q2:=b.hi
 have q3:=b.aH
 have bM:=b.make (n:=name) (W:=W) (by omega)
 have hgl:=hg.lt
 have hF0:=hp.fF
 unfold jl at hK
 refine xN hg hp hn (by omega) (by omega) q1 b.fit (fun F2 B p2 S2 o2=>?_) (fun F2 B kw w p2 S2 o2 w2 k1 k2=>?_)
 ·have e1:=nq.1 o2
  rw[o2] at hK
  exact aZ (by simpa using e1) (hK F2 B p2 S2)
 obtain⟨e1,hw,W0,W16⟩:=nq.2 w o2
 subst hw
 rw[o2] at hK
 simp only at hK
 generalize (bo s name W).1=s1 at*
 rw[e1]
 refine aA rfl ?_
 have hln:l.n=qs.length:=bc.n hq.out (by decide)
 have wrk:∀b,kz kw dr dr b→b=kw:=by
  rintro b (q|q|q)
  ·exact q
  ·exact absurd q (bE b)
  ·exact absurd q (bE b)
 refine aB qs.length (fun i z B=>z=(i:Int)∧∃F' s' w sw sl,al F' B p dp s'∧pI B kw p w sw sl∧(∀b,F' b→¬kz kw sw sl b)∧(∀b,F' b∨kz kw sw sl b→F b∨A0.size≤b)∧Mod F A0 B∧Bd s' (x+1+i) (y+2+2*i)∧qp w name i∧
   jH (qs.map (·.2)) s1 (vi name W)=jH ((qs.map (·.2)).drop i) s' w) ⟨rfl,F2,s1,vi name W,dr,dr,p2,w2,fun b hb q=>k2 ((wrk b q)▸hb),fun b hb=>?_,S2.mod,bM,EJ name W0 W16,rfl⟩ ?_
 ·rcases hb with q|q
  ·exact S2.own b q
  ·have:=wrk b q;exact .inr (by omega)
 rintro i z B next hi ⟨rfl,F',s',w,sw,sl,pB,wB,dB,oB,mB,bB,rB,eB⟩ hnext
 have hgB:=hg.mod mB hF0
 have u1:=bB.lo
 have u2:=bB.hi
 have u3:=bB.aH
 have hgs:¬kz kw sw sl aY:=fun q=>(oB _ (.inr q)).elim hF0 fun r=>by omega
 have c1:=rB.wait
 have c2:=rB.n
 have c3:=rB.rows
 have offZ:∀b,b<A0.size→¬F b→¬(F' b∨kz kw sw sl b):=fun b hb hn q=>by
  rcases oB b q with r|r
  ·exact hn r
  ·omega
 refine aj (fun hc=>?_) (fun hc=>?_)
 ·have hlt : i < qs.length := by have : (i : Int) < (l.n : Int) := by simpa using hc
                                 omega
  obtain⟨q,gq⟩:∃q,qs[i]?=some q:=⟨_,List.getElem?_eq_getElem hlt⟩
  have mq:=List.mem_of_getElem? gq
  have hqB:kI B l qs:=⟨hq.out.mod mB hlF,fun a ha=>(hq.own a ha).mod mB (hqF a ha),hq.few⟩
  refine hqB.get gq ?_
  have hd:(qs.map (·.2)).drop i=q.2::(qs.map (·.2)).drop (i+1):=by
   rw[List.drop_eq_getElem_cons (by simpa using hlt)]
   congr 1
   rw[List.getElem?_eq_getElem hlt] at gq
   rw[List.getElem_map,Option.some.inj gq]
  rw[hd] at eB
  simp only[jH] at eB
  have bB':=bB.add (w:=w) (by omega) q.2
  have rB':=(rB.add s' q.2).1
  refine Ak hgB hgs wB pB dB (hqB.ints mq) (fun ad ha r=>offZ ad.block ((hq.own q mq).lt _ ⟨ad,ha,rfl⟩) (hqF q mq _ ⟨ad,ha,rfl⟩) (.inr r)) (by have:=hq.few q mq;omega) (by omega) (by omega) (by omega) (by rw[rB.name];exact hn) (by omega) (by omega) u1 bB.fit fun F3 sw3 sl3 C p3 w3 d3 S3=>?_
  have o3:∀b,F3 b∨kz kw sw3 sl3 b→F b∨A0.size≤b:=fun b r=>by
   rcases S3.own b r with u|u
   ·exact oB b u
   ·have:=mB.size;exact .inr (by omega)
  have m3:Mod F A0 C:=mB.trans' S3.mod fun b hb r=>(oB b r).resolve_right (by omega)
  by_cases e0:(w.add s' q.2).2.2=0
  ·rw[if_neg (by rw[e0];simp)] at eB
   rw[e0]
   refine aA rfl ?_
   rw[aP i (by omega)]
   exact hnext hlt _ C ⟨rfl,F3,_,_,sw3,sl3,p3,w3,d3,o3,m3,bB'.mono (by omega) (by omega),rB',eB⟩
  ·rw[if_pos e0] at eB
   rw[eB] at hK
   unfold ue at hK
   rw[if_pos e0] at hK
   exact aZ (by simpa using e0) (hK F3 C p3 ⟨m3,fun b r=>o3 b (.inl r)⟩)
 ·have hge : i = qs.length := by have : ¬ (i : Int) < (l.n : Int) := by simpa using hc
                                 omega
  subst hge
  have hd:(qs.map (·.2)).drop qs.length=[]:=List.drop_of_length_le (by simp)
  rw[hd] at eB
  simp only[jH] at eB
  rw[eB] at hK
  unfold ue at hK
  rw[if_neg (by simp)] at hK
  have o:=bB.out (w:=w) (by omega)
  have o1:=o.hi
  have o2:=o.aH
  refine tZ hgB hgs wB pB dB (by omega) rB.width.1 (by rw[rB.name];exact hn) (by omega) (by omega) u1 bB.fit (by omega) (by omega) (fun h hd=>?_) fun F3 sw' C p3 w3 d3 S3=>?_
  ·rw[Pl.AE,Pl.DC]
   have:=(w.out s').1.nc w.b.name 0
   omega
  ·refine hK F3 C p3 ⟨mB.trans' S3.mod fun b hb r=>(oB b r).resolve_right (by omega),fun b r=>?_⟩
   rcases S3.own b (.inl r) with u|u
   ·exact oB b u
   ·have:=mB.size;exact .inr (by omega)
end
end Go.Proofs.YtacfhncgbgijhaaGreat
namespace Go.Proofs.YtacfhncgbgijhaaGreat
section
variable {M:bI} {W:Nat} {p:Pl} {Q U:Nat} {to:ByteArray} {out:List (List Int)} {w:RW} {i:Nat}
structure lE [Tab] (p p':Pl) (M M':bI) (to:ByteArray) (Q U' k:Nat):Prop where
 calm:aO p' M' Q U'
 other:∀a,a≠to→M' a=M a
 room:cA M'
 next:p.next≤p'.next∧p'.next≤p.next+k
 most:p'.most=p.most
theorem lE.trans [Tab] {p1 p2:Pl} {M1 M2:bI} {U1 U2 k1 k2:Nat} (h:lE p p1 M M1 to Q U1 k1) (k:lE p1 p2 M1 M2 to Q U2 k2):lE p p2 M M2 to Q U2 (k1+k2):=
 ⟨k.calm,fun a ha=>(k.other a ha).trans (h.other a ha),k.room,by have:=h.next;have:=k.next;omega,k.most.trans h.most⟩
theorem DQ [Tab] (h2:W≤16) (ho:fR W out) (hs:to.size≤9223372036854775807) (hQ:Q≤1048576) {y:List Int} {s:List (List Int)} (hC:aO p M Q U) (hR:cA M) (hw:oY M w to W (cg W) out i) (ht:out.drop i=mS i w.last (y::s)) (hU:U+(out.length - i)<Q) (h0:0≤p.next) (hx:p.next<1099511627776):
  (bg p w y).2.2=0∧∃M1 U1 i1,lE p (bg p w y).1 M M1 to Q U1 2∧oY M1 (bg p w y).2.1 to W (cg W) out i1∧U1+i/cg W=U+i1/cg W∧U1+(out.length - i1)<Q∧out.drop i1=mS i1 (bg p w y).2.1.last s:=by
 rw[zF] at ht
 unfold bg
 rw[hw.rows]
 by_cases hc:i=0∨aF y w.last≠0
 ·rw[if_pos hc] at ht ⊢
  have hi:i<out.length:=by
   have:=congrArg List.length ht
   rw[List.length_drop,List.length_cons] at this
   omega
  rw[List.drop_eq_getElem_cons hi] at ht
  obtain⟨hy,hd⟩:=List.cons.inj ht
  have hg:out.getD i []=y:=by rw[List.getD,List.getElem?_eq_getElem hi];exact hy
  obtain⟨a1,M',U',c1,c2,c3,c4,c5⟩:=hw.add hC hR (Nat.zero_le _) h2 ho hi hs hQ (by omega) h0 hx
  rw[hg] at a1 c1 c2 c3
  refine⟨a1,M',U',i+1,⟨c1,c3.other,c3.room,c3.next,c3.most⟩,c2,c4,by omega,?_⟩
  have hl:=c2.last (Nat.succ_pos _)
  rw[Nat.add_sub_cancel,hg] at hl
  rw[hl,hd]
  unfold mS
  rw[if_neg (by omega)]
 ·rw[if_neg hc] at ht ⊢
  refine⟨rfl,M,U,i,⟨hC,fun _ _=>rfl,hR,⟨Int.le_refl _,by show p.next≤p.next+_;omega⟩,rfl⟩,hw,rfl,hU,?_⟩
  rw[ht]
  unfold mS
  rw[if_neg fun q=>hc (.inl q)]
theorem uJ [Tab] (h2:W≤16) (ho:fR W out) (hbig:out.length≤1000000) (hs:to.size≤9223372036854775807) (hQ:Q≤1048576):∀(f:Nat) {p:Pl} {M:bI} {U:Nat} {xs:List zZ} {w:RW} {i:Nat},aO p M Q U→cA M→(∀x∈xs,x.Good M W∧x.n≠to)→oY M w to W (cg W) out i→out.drop i=mS i w.last (bp (gZ xs))→(gZ xs).length<f→U+(out.length - i)<Q→0≤p.next→p.next+3*f<1099511627770→
  (ib f p (xs.map (·.r)) (xs.map (·.h)) w).2=(out.length,0)∧∃M' U',lE p (ib f p (xs.map (·.r)) (xs.map (·.h)) w).1 M M' to Q U' (3*f)∧jh M' to W (cg W) out∧U'+i/cg W=U+aJ out.length (cg W)
 |0,p,M,U,xs,w,i,_,_,_,_,_,hf,_,_,_=>absurd hf (Nat.not_lt_zero _)
 |f+1,p,M,U,xs,w,i,hC,hR,hx,hw,ht,hf,hU,h0,hn=>by
   unfold ib
   cases e:eQ (xs.map (·.h)) with
   |none=>
     have hr:=Cs (fun x q=>(hx x q).1) e
     rw[hr] at ht
     have e0:bp []=[]:=List.eq_nil_of_length_eq_zero (by rw[(fh []).length_eq];rfl)
     rw[e0,Cn] at ht
     have hi:i=out.length:=by
      have:=hw.le
      have:=congrArg List.length ht
      rw[List.length_drop,List.length_nil] at this
      omega
     subst hi
     obtain⟨a1,M',U',c1,c2,c3,c4,_⟩:=hw.close hC hR (Nat.zero_le _) h2 ho hs hQ (by omega) h0 (by omega)
     simp only
     rw[a1]
     exact⟨rfl,M',U',⟨c1,c3.other,c3.room,⟨c3.next.1,by have:=c3.next.2;omega⟩,c3.most⟩,c2,c4⟩
   |some q=>
     obtain⟨j,y⟩:=q
     obtain⟨x,s,hj,hh,hrem,hs0,hsr⟩:=Bv (fun x q=>(hx x q).1) e
     obtain⟨gx,nx⟩:=hx x (List.mem_of_getElem? hj)
     rw[hs0] at ht
     obtain⟨a0,M1,U1,i1,W1,w1,u1,u2,t1⟩:=DQ h2 ho hs hQ hC hR hw ht hU h0 (by omega)
     simp only
     rw[if_neg (by rw[a0];simp)]
     generalize bg p w y=a at*
     have hgj:(xs.map (·.r)).getD j default=x.r:=by rw[List.getD,List.getElem?_map,hj];rfl
     rw[hgj]
     have g1:=gx.aq (W1.other _ nx)
     have q1:=W1.next
     obtain⟨b0,b1,b2,b3,b4,b5⟩:=uC g1.run g1.rise g1.on g1.size g1.big W1.calm h2 hQ (by omega) (by omega) (by omega)
     rw[if_neg (by rw[b0];simp)]
     obtain⟨x',e1,e2,e3,e4,g'⟩:∃x':zZ,x'.r=(x.r.next a.1).2.1∧x'.h=fL (x.r.next a.1).2.2.1 (x.r.next a.1).2.2.2.1∧x'.rem=x.rem.tail∧x'.n=x.n∧x'.Good M1 W:=⟨⟨x.n,x.L,x.L.drop x.r.at_,(x.r.next a.1).2.1,fL (x.r.next a.1).2.2.1 (x.r.next a.1).2.2.2.1⟩,rfl,rfl,gx.rem.symm,rfl,b5⟩
     rw[←e1,←e2,←List.map_set,←List.map_set]
     have hlen:=(sX (x':=x') hj (by rw[hrem,e3])).length_eq
     rw[List.length_cons] at hlen
     rw[←hsr x' e3] at t1
     obtain⟨r1,M2,U2,r2,r3,r4⟩:=uJ h2 ho hbig hs hQ f (p:=(x.r.next a.1).1) (xs:=xs.set j x') b1 W1.room (fun z hz=>by
      rcases List.mem_or_eq_of_mem_set hz with q|q
      ·obtain⟨g,n⟩:=hx z q
       exact⟨g.aq (W1.other _ n),n⟩
      ·subst q;exact⟨g',by rw[e4];exact nx⟩) w1 t1 (by omega) u2 (by omega) (by omega)
     refine⟨r1,M2,U2,?_,r3,by omega⟩
     have:=(W1.trans ⟨b1,fun _ _=>rfl,W1.room,⟨b2,b3⟩,b4⟩:lE p (x.r.next a.1).1 M M1 to Q U1 (2+1)).trans r2
     exact⟨this.calm,this.other,this.room,⟨this.next.1,by have:=this.next.2;omega⟩,this.most⟩
theorem vr:∀(l:List (List Int)) (a:List Int),(dd a l).length≤l.length
 |[],_=>Nat.le_refl _
 |b::l,a=>by
   simp only[dd]
   have h1:=vr l a
   have h2:=vr l b
   split<;>simp only[List.length_cons]<;>omega
theorem dz (l:List (List Int)):(ay (bp l)).length≤l.length:=by
 have h:=(fh l).length_eq
 cases e:bp l with
 |nil=>exact Nat.zero_le _
 |cons a t=>
   rw[e] at h
   simp only[ay,List.length_cons] at h ⊢
   have:=vr t a
   omega
structure mT (M:bI) (W:Nat) (a:ByteArray×List (List Int)):Prop where
 run:jh M a.1 W (cg W) a.2
 rise:fR W a.2
 size:a.1.size≤9223372036854775807
 big:a.2.length≤1000000
theorem mT.aq [Tab] {M':bI} {a:ByteArray×List (List Int)} (h:mT M W a) (e:M' a.1=M a.1):mT M' W a:=⟨h.run.aq e,h.rise,h.size,h.big⟩
def fS (W:Nat) (a:ByteArray×List (List Int)):RR:=EH a.1 W a.2.length
theorem sJ [Tab] (h2:W≤16) (hQ:Q≤1048576) (hU:U≤Q):∀{fs:List (ByteArray×List (List Int))} {p:Pl},aO p M Q U→(∀a∈fs,mT M W a)→0≤p.next→p.next+fs.length<1099511627776→
  (bf W (fs.map (·.1)) p).2=(fs.map (fS W),0)∧aO (bf W (fs.map (·.1)) p).1 M Q U∧p.next≤(bf W (fs.map (·.1)) p).1.next∧(bf W (fs.map (·.1)) p).1.next≤p.next+fs.length∧(bf W (fs.map (·.1)) p).1.most=p.most
 |[],p,hC,_,h0,_=>⟨rfl,hC,Int.le_refl _,by show p.next≤p.next+0;omega,rfl⟩
 |a::fs,p,hC,hf,h0,hn=>by
   have g:=hf a List.mem_cons_self
   rw[List.length_cons] at hn
   obtain⟨c1,c2,c3,c4,c5,_⟩:=g.run.opened hC (Nat.zero_le _) h2 g.size hQ hU g.big h0 (by omega)
   obtain⟨d1,d2,d3,d4,d5⟩:=sJ h2 hQ hU (fs:=fs) c2 (fun b hb=>hf b (List.mem_cons_of_mem _ hb)) (by omega) (by omega)
   have e:bf W ((a::fs).map (·.1)) p=((bf W (fs.map (·.1)) (rnOpen p a.1 W).1).1,EH a.1 W a.2.length::(bf W (fs.map (·.1)) (rnOpen p a.1 W).1).2.1,(bf W (fs.map (·.1)) (rnOpen p a.1 W).1).2.2):=by
    rw[List.map_cons]
    simp only[bf]
    rw[c1]
   rw[e,d1]
   rw[List.length_cons]
   exact⟨rfl,d2,by show p.next≤(bf _ _ _).1.next;omega,by show (bf _ _ _).1.next≤_;omega,d5.trans c5⟩
theorem uX [Tab] (h2:W≤16) (hQ:Q≤1048576) (hU:U≤Q):∀{fs:List (ByteArray×List (List Int))} {p:Pl},aO p M Q U→(∀a∈fs,mT M W a)→0≤p.next→p.next+fs.length<1099511627776→
  (bj (fs.map (fS W)) p).2.2.2=0∧aO (bj (fs.map (fS W)) p).1 M Q U∧p.next≤(bj (fs.map (fS W)) p).1.next∧(bj (fs.map (fS W)) p).1.next≤p.next+fs.length∧(bj (fs.map (fS W)) p).1.most=p.most∧
   ∃xs:List zZ,(bj (fs.map (fS W)) p).2.1=xs.map (·.r)∧(bj (fs.map (fS W)) p).2.2.1=xs.map (·.h)∧(∀x∈xs,x.Good M W∧(x.n,x.L)∈fs)∧gZ xs=fs.flatMap (·.2)
 |[],p,hC,_,h0,_=>⟨rfl,hC,Int.le_refl _,by show p.next≤p.next+0;omega,rfl,[],rfl,rfl,by simp,rfl⟩
 |a::fs,p,hC,hf,h0,hn=>by
   have g:=hf a List.mem_cons_self
   rw[List.length_cons] at hn
   have hon:kE (EH a.1 W a.2.length) a.1 W (cg W) a.2:=⟨rfl,rfl,Nat.zero_le _,fun j hj=>(by cases hj),fun l hl=>(by cases hl)⟩
   obtain⟨c1,c2,c3,c4,c5,c6⟩:=uC g.run g.rise hon g.size g.big hC h2 hQ hU h0 (by omega)
   obtain⟨d1,d2,d3,d4,d5,xs,x1,x2,x3,x4⟩:=uX h2 hQ hU (fs:=fs) c2 (fun b hb=>hf b (List.mem_cons_of_mem _ hb)) (by omega) (by omega)
   have hr:fS W a=EH a.1 W a.2.length:=rfl
   rw[←hr] at c1 c2 c3 c4 c5 c6 d1 d2 d3 d4 d5 x1 x2
   have e:bj ((a::fs).map (fS W)) p=((bj (fs.map (fS W)) ((fS W a).next p).1).1,((fS W a).next p).2.1::(bj (fs.map (fS W)) ((fS W a).next p).1).2.1,fL ((fS W a).next p).2.2.1 ((fS W a).next p).2.2.2.1::(bj (fs.map (fS W)) ((fS W a).next p).1).2.2.1,(bj (fs.map (fS W)) ((fS W a).next p).1).2.2.2):=by
    rw[List.map_cons]
    simp only[bj]
    rw[if_neg (by rw[c1];simp)]
   rw[e,List.length_cons]
   refine⟨d1,d2,by show p.next≤(bj _ _).1.next;omega,by show (bj _ _).1.next≤_;omega,d5.trans c5,⟨a.1,a.2,a.2.drop (fS W a).at_,((fS W a).next p).2.1,fL ((fS W a).next p).2.2.1 ((fS W a).next p).2.2.2.1⟩::xs,?_,?_,?_,?_⟩
   ·rw[List.map_cons,←x1]
   ·rw[List.map_cons,←x2]
   ·intro x hx
    rcases List.mem_cons.1 hx with q|q
    ·subst q;exact⟨c6,List.mem_cons_self⟩
    ·exact⟨(x3 x q).1,List.mem_cons_of_mem _ (x3 x q).2⟩
   ·unfold gZ at x4 ⊢
    rw[List.flatMap_cons,List.flatMap_cons,x4]
    rfl
theorem CA [Tab] (h2:W≤16) (hQ:Q≤1048576) {fs:List (ByteArray×List (List Int))} (hC:aO p M Q U) (hR:cA M) (hf:∀a∈fs,mT M W a) (hne:fs≠[]) (hM:M to=none) (hn:named to=true) (hs:to.size≤9223372036854775807) {ns:List ByteArray} (hns:∀a y,M a=some y→a∈ns) (hnl:ns.length<4096)
  (hout:out=ay (bp (fs.flatMap (·.2)))) (hbig:(fs.flatMap (·.2)).length≤1000000) (hfl:fs.length≤1000000) (hU:U+1+out.length<Q) (h0:0≤p.next) (hnx:p.next<1000000000000):
  (dP p (fs.map (·.1)) to W).2=(out.length,0)∧∃M' U',lE p (dP p (fs.map (·.1)) to W).1 M M' to Q U' (2*fs.length+3*(fs.flatMap (·.2)).length+5)∧jh M' to W (cg W) out∧fR W out∧U'=U+1+aJ out.length (cg W):=by
 obtain⟨o1,o2,o3,o4,o5⟩:=sJ h2 hQ (by omega) hC hf h0 (by omega)
 have hfl':(bf W (fs.map (·.1)) p).1.d.files.length<4096:=by have:=o2.told.rR hns;omega
 have ho:fR W out:=by
  rw[hout]
  have hmem:∀y∈ay (bp (fs.flatMap (·.2))),∃a∈fs,y∈a.2:=fun y hy=>List.mem_flatMap.1 ((fh _).mem_iff.1 (iB.1 hy))
  refine AG (dW (gI _)) (fun y hy=>?_) (fun y hy=>?_)
  ·obtain⟨a,ha,q⟩:=hmem y hy;exact(hf a ha).rise.len y q
  ·obtain⟨a,ha,q⟩:=hmem y hy;exact(hf a ha).rise.fit y q
 obtain⟨e,M1,c1,c2,c3⟩:=Eh (rs:=out) o2 hR hM hn hs hfl' (by omega) (by omega) (by omega) (Nat.zero_le _) h2
 have hto:∀a∈fs,a.1≠to:=fun a ha q=>by
  obtain⟨T,q1,_⟩:=(hf a ha).run.file
  rw[q,hM] at q1;cases q1
 have q3:=c3.next
 obtain⟨d1,d2,d3,d4,d5,xs,x1,x2,x3,x4⟩:=uX h2 hQ (by omega) c1 (fun a ha=>(hf a ha).aq (c3.other _ (hto a ha))) (by omega) (by omega)
 have em:dP p (fs.map (·.1)) to W=yL (bj (fs.map (fS W)) (bo (bf W (fs.map (·.1)) p).1 to W).1) (vi to W):=by
  unfold dP
  rw[if_neg (by simpa using hne),o1]
  simp only
  rw[if_neg (by simp)]
  unfold lN
  have:(bo (bf W (fs.map (·.1)) p).1 to W).2.1=some (vi to W):=by rw[e]
  rw[this]
 rw[em]
 unfold yL
 rw[if_neg (by rw[d1];simp),x1,x2]
 have hlen:dg (xs.map (·.r))+fZ (xs.map (·.h))=(fs.flatMap (·.2)).length:=by rw[←x4];exact sR fun x hx=>(x3 x hx).1
 have hol:out.length≤(fs.flatMap (·.2)).length:=by rw[hout];exact dz _
 obtain⟨r1,M2,U2,r2,r3,r4⟩:=uJ h2 ho (by omega) hs hQ (dg (xs.map (·.r))+fZ (xs.map (·.h))+1) (xs:=xs) d2 c3.room (fun x hx=>⟨(x3 x hx).1,hto _ (x3 x hx).2⟩) c2 (by
  rw[x4,List.drop_zero,hout];rfl) (by rw[x4];omega) (by omega) (by omega) (by omega)
 refine⟨r1,M2,U2,⟨r2.calm,fun a ha=>(r2.other a ha).trans (c3.other a ha),r2.room,⟨by have:=r2.next;omega,by have:=r2.next;omega⟩,r2.most.trans (d5.trans (c3.most.trans o5))⟩,r3,ho,?_⟩
 rw[Nat.zero_div] at r4
 omega
end
section
variable {M:bI} {W:Nat} {p:Pl} {Q U:Nat} {to:ByteArray} {out:List (List Int)}
theorem xT [Tab] (h2:W≤16) (ho:fR W out) (hs:to.size≤9223372036854775807) (hQ:Q≤1048576):∀(l:List (List Int)) {p:Pl} {M:bI} {U:Nat} {w:RW} {i:Nat},l=out.drop i→aO p M Q U→cA M→oY M w to W (cg W) out i→U+(out.length - i)<Q→0≤p.next→p.next+2*l.length<1099511627776→
  (jH l p w).2.2=0∧∃M' U',lE p (jH l p w).1 M M' to Q U' (2*l.length)∧oY M' (jH l p w).2.1 to W (cg W) out out.length∧U'+i/cg W=U+out.length/cg W∧U'<Q
 |[],p,M,U,w,i,hl,hC,hR,hw,hU,h0,_=>by
   have hi:i=out.length:=by
    have:=hw.le
    have:=congrArg List.length hl
    rw[List.length_drop,List.length_nil] at this
    omega
   subst hi
   exact⟨rfl,M,U,⟨hC,fun _ _=>rfl,hR,⟨Int.le_refl _,by show p.next≤p.next+_;omega⟩,rfl⟩,hw,rfl,by omega⟩
 |y::l,p,M,U,w,i,hl,hC,hR,hw,hU,h0,hn=>by
   have hi:i<out.length:=by
    have:=congrArg List.length hl
    rw[List.length_drop,List.length_cons] at this
    omega
   rw[List.drop_eq_getElem_cons hi] at hl
   obtain⟨hy,hd⟩:=List.cons.inj hl
   have hg:out.getD i []=y:=by rw[List.getD,List.getElem?_eq_getElem hi];exact hy.symm
   rw[List.length_cons] at hn
   obtain⟨a1,M1,U1,c1,c2,c3,c4,c5⟩:=hw.add hC hR (Nat.zero_le _) h2 ho hi hs hQ (by omega) h0 (by omega)
   rw[hg] at a1 c1 c2 c3
   have q3:=c3.next
   obtain⟨d1,M2,U2,d2,d3,d4,d5⟩:=xT h2 ho hs hQ l hd c1 c3.room c2 (by omega) (by omega) (by omega)
   simp only[jH]
   rw[if_neg (by rw[a1];simp),List.length_cons]
   refine⟨d1,M2,U2,⟨d2.calm,fun a ha=>(d2.other a ha).trans (c3.other a ha),d2.room,⟨by have:=d2.next;omega,by have:=d2.next;omega⟩,d2.most.trans c3.most⟩,d3,by omega,d5⟩
theorem Dm [Tab] (h2:W≤16) (hQ:Q≤1048576) (hC:aO p M Q U) (hR:cA M) (ho:fR W out) (hM:M to=none) (hn:named to=true) (hs:to.size≤9223372036854775807) {ns:List ByteArray} (hns:∀a y,M a=some y→a∈ns) (hnl:ns.length<4096)
  (hbig:out.length≤1000000) (hU:U+1+out.length<Q) (h0:0≤p.next) (hnx:p.next<1000000000000):
  (jl p to W out).2=0∧∃M' U',lE p (jl p to W out).1 M M' to Q U' (2*out.length+4)∧jh M' to W (cg W) out∧U'=U+1+aJ out.length (cg W):=by
 have hfl:=hC.told.rR hns
 obtain⟨e,M1,c1,c2,c3⟩:=Eh (rs:=out) hC hR hM hn hs (by omega) (by omega) h0 (by omega) (Nat.zero_le _) h2
 have q3:=c3.next
 obtain⟨d1,M2,U2,d2,d3,d4,d5⟩:=xT h2 ho hs hQ out rfl c1 c3.room c2 (by omega) (by omega) (by omega)
 have q4:=d2.next
 obtain⟨a1,M3,U3,k1,k2,k3,k4,_⟩:=d3.close d2.calm d2.room (Nat.zero_le _) h2 ho hs hQ d5 (by omega) (by omega)
 have em:jl p to W out=ue (jH out (bo p to W).1 (vi to W)):=by
  unfold jl
  have:(bo p to W).2.1=some (vi to W):=by rw[e]
  rw[this]
 rw[em]
 unfold ue
 rw[if_neg (by rw[d1];simp),a1]
 have q5:=k3.next
 rw[Nat.zero_div] at d4
 exact⟨rfl,M3,U3,⟨k1,fun a ha=>(k3.other a ha).trans ((d2.other a ha).trans (c3.other a ha)),k3.room,⟨by show _≤(RW.close _ _).1.next;omega,by show (RW.close _ _).1.next≤_;omega⟩,k3.most.trans (d2.most.trans c3.most)⟩,k2,by omega⟩
def dY (W:Nat) (fs:List (ByteArray×List (List Int))):Nat:=(fs.map fun a=>1+aJ a.2.length (cg W)).sum
theorem xt [Tab]:∀{fs:List (ByteArray×List (List Int))} {p:Pl} {M:bI} {U:Nat},aO p M Q U→cA M→(∀a∈fs,mT M W a)→(fs.map (·.1)).Nodup→
  (kn (fs.map (·.1)) p).2=0∧∃M',aO (kn (fs.map (·.1)) p).1 M' Q (U - dY W fs)∧cA M'∧(∀a,a∉fs.map (·.1)→M' a=M a)∧(∀a∈fs.map (·.1),M' a=none)∧(kn (fs.map (·.1)) p).1.next=p.next∧(kn (fs.map (·.1)) p).1.most=p.most
 |[],p,M,U,hC,hR,_,_=>⟨rfl,M,hC,hR,fun _ _=>rfl,fun a ha=>(by cases ha),rfl,rfl⟩
 |x::fs,p,M,U,hC,hR,hf,hd=>by
   rw[List.map_cons,List.nodup_cons] at hd
   obtain⟨T,q1,_⟩:=(hf x List.mem_cons_self).run.file
   obtain⟨a1,a2,a3,a4⟩:=hC.dt q1
   have hne:∀a∈fs,a.1≠x.1:=fun a ha q=>hd.1 (List.mem_map.2 ⟨a,ha,q⟩)
   obtain⟨b1,M',b2,b3,b4,b5,b6,b7⟩:=xt (fs:=fs) a2 hR.less (fun a ha=>(hf a (List.mem_cons_of_mem _ ha)).aq (aK (hne a ha))) hd.2
   rw[List.map_cons]
   simp only[kn]
   rw[if_neg (by rw[a1];simp)]
   have eU:U - dY W (x::fs)=U - (1+aJ x.2.length (cg W)) - dY W fs:=by
    unfold dY
    rw[List.map_cons,List.sum_cons];omega
   rw[eU]
   refine⟨b1,M',b2,b3,fun a ha=>?_,fun a ha=>?_,b6.trans a4,b7.trans a3⟩
   ·rw[List.mem_cons,not_or] at ha
    rw[b4 a ha.2,aK ha.1]
   ·by_cases q:a∈fs.map (·.1)
    ·exact b5 a q
    ·rw[b4 a q]
     rcases List.mem_cons.1 ha with u|u
     ·rw[u,bm]
     ·exact absurd u q
theorem pR {n room:Nat} (h:1≤room):aJ n room≤n:=by
 unfold aJ
 rw[Nat.div_le_iff_le_mul_add_pred h]
 have:n≤room*n:=Nat.le_mul_of_pos_left _ h
 omega
theorem ug (h2:W≤16):∀fs:List (ByteArray×List (List Int)),dY W fs≤fs.length+(fs.flatMap (·.2)).length
 |[]=>Nat.le_refl _
 |a::fs=>by
   have h:=ug h2 fs
   have r:=(bR (Nat.zero_le _) h2).2.1
   have:=pR (n:=a.2.length) (show 1≤cg W by omega)
   unfold dY at h ⊢
   rw[List.map_cons,List.sum_cons,List.flatMap_cons,List.length_append,List.length_cons]
   omega
theorem jw (fs gs:List (ByteArray×List (List Int))):dY W (fs++gs)=dY W fs+dY W gs:=by
 unfold dY;rw[List.map_append,List.sum_append]
end
theorem ua [Tab] {n:ByteArray} {i j:Nat} (hi:i<100) (hj:j<100) (h:bN n i=bN n j):i=j:=by
 have h1:=congrArg (fun b:ByteArray=>b.data.toList) h
 unfold bN at h1
 simp only[ByteArray.data_append,Array.toList_append] at h1
 have h2:=List.append_cancel_left h1
 have e:nh i=nh j:=ByteArray.ext (Array.ext' h2)
 have a:=(kF i hi).1
 have b:=(kF j hj).1
 rw[e] at a
 exact a.symm.trans b
theorem ff [Tab] (n:ByteArray) (i:Nat):(bN n i).size=n.size+1+(nh i).size:=by
 unfold bN
 rw[ByteArray.size_append,ByteArray.size_append]
 rfl
theorem E8 [Tab] (n:ByteArray) (i:Nat):bN n i≠n:=fun h=>by
 have:=congrArg ByteArray.size h
 rw[ff] at this
 omega
theorem xq [Tab] {n:ByteArray} {i:Nat} (hi:i<100) (hn:n.size≤97):named (bN n i)=true:=by
 have:=(kF i hi).2
 unfold named
 rw[ff]
 simp only[Bool.and_eq_true,decide_eq_true_eq]
 omega
open Go.MapKept
def qt [Tab] (p:Nat) (t:So) (sw ss:Sl):Array Value:=#[.pointer (aI p),.string t.name,.int .i64 t.width,.int .i64 t.af,sw.v,ss.v,.int .i64 (t.next:Int),.int .i64 t.wrong,.bool t.closed]
structure Im [Tab] (H:aa) (k p:Nat) (t:So) (sw:Sl) (rs:List Sl) (ss:Sl):Prop where
 row:ag H k wm (qt p t sw ss)
 wait:ax H 0 sw rs t.wait
 names:gJ vY H ss.a t.side
 n:ss.n=t.side.length∧ss.n≤ss.c
 few:∀l∈t.wait,l.length≤16
structure qn [Tab] (H:aa) (k p:Nat) (t:So) (sw:Sl) (rs:List Sl) (ss:Sl):Prop where
 rd:Im H k p t sw rs ss
 side:bc vY tj H ss t.side
def fH (k:Nat) (sw:Sl) (rs:List Sl) (ss:Sl) (b:Nat):Prop:=b=k∨ai sw b∨(∃x∈rs,ai x b)∨ai ss b
structure Di [Tab] (t:So):Prop where
 name:t.name.size≤1000000
 wait:t.wait.length≤400000
 side:t.side.length≤1000
 sizes:∀n∈t.side,n.size≤9223372036854775807
 next:t.next<100
 af:0≤t.af∧t.af≤1000000
section
variable {H:aa} {k p dp:Nat} {t:So} {sw ss:Sl} {rs:List Sl} {F:Nat→Prop} {s:Pl}
theorem qn.mk' [Tab] (row:ag H k wm (qt p t sw ss)) (wait:ax H 0 sw rs t.wait) (side:bc vY tj H ss t.side) (few:∀l∈t.wait,l.length≤16):qn H k p t sw rs ss:=
 ⟨⟨row,wait,side.rd,⟨bc.n side (by decide),au.cap side⟩,few⟩,side⟩
theorem Im.tM [Tab] (h:Im H k p t sw rs ss):¬ai sw k:=fun q=>by
 obtain⟨cur,hc⟩:=h.wait.out.obj k q
 exact absurd (aR hc h.row) (by decide)
theorem Im.v7 [Tab] (h:Im H k p t sw rs ss):∀x∈rs,¬ai x k:=fun x hx q=>by
 obtain⟨l,hl⟩:=h.wait.rowAt hx
 obtain⟨cur,hc⟩:=hl.obj k q
 exact absurd (aR hc h.row) (by decide)
theorem qn.tw [Tab] (h:qn H k p t sw rs ss):¬ai ss k:=fun q=>by
 obtain⟨cur,hc⟩:=h.side.obj k q
 exact absurd (aR hc h.rd.row) (by decide)
theorem qn.lt [Tab] (h:qn H k p t sw rs ss):∀b,fH k sw rs ss b→b<H.size:=by
 rintro b (q|q|⟨x,hx,q⟩|q)
 ·subst q;exact aL h.rd.row
 ·exact(h.rd.wait.block.1 b q).2
 ·exact(h.rd.wait.block.2 x hx b q).2
 ·exact h.side.lt b q
theorem qn.mod [Tab] {G:Nat→Prop} {H':aa} (h:qn H k p t sw rs ss) (m:Mod G H H') (hn:∀b,fH k sw rs ss b→¬G b):qn H' k p t sw rs ss:=
 .mk' (h.rd.row.mod m (hn k (.inl rfl))) (h.rd.wait.mod m (fun b hb=>hn b (.inr (.inl hb))) fun x hx b hb=>hn b (.inr (.inr (.inl ⟨x,hx,hb⟩)))) (h.side.mod m fun b hb=>hn b (.inr (.inr (.inr hb)))) h.rd.few
theorem sg [Tab] {K:Int→aa→Prop} (h:ag H k wm (qt p t sw ss)) (hK:K t.ready H):GV.sp (aI k) H K:=by
 refine GV.of ?_
 unfold GV.vc
 unfold So.ready at hK
 unfold aI
 simp only[av]
 refine aA rfl ?_
 refine h.ld (c:=ab .i64) (i:=7) (x:=t.wrong) rfl ?_
 refine aj (fun hc=>?_) (fun hc=>?_)
 ·refine h.ld (c:=ab .i64) (i:=7) (x:=t.wrong) rfl ?_
  rw[if_pos (by simpa using hc)] at hK
  exact hK
 ·rw[if_neg (by simpa using hc)] at hK
  refine h.ld (c:=aw) (i:=8) (x:=t.closed) rfl ?_
  cases hcl:t.closed with
  |true=>rw[hcl,if_pos rfl] at hK;exact hK
  |false=>rw[hcl,if_neg (by simp)] at hK;exact hK
theorem iX [Tab] {n:Nat} (h:n<100):(nh n).size≤2:=(kF n h).2
theorem qb [Tab] {K:ByteArray→aa→Prop} (h:ag H k wm (qt p t sw ss)) (hn:t.next<100) (hs:t.name.size≤1000000)
  (hK:∀H',ag H' k wm (qt p (t.to (t.next+1)) sw ss)→Mod (fun b=>b=k) H H'→H'.size=H.size→K (bN t.name t.next) H'):Hq.sp (aI k) H K:=by
 refine Hq.of ?_
 unfold Hq.vc
 unfold aI
 simp only[av]
 refine h.ld (c:=ab .i64) (i:=6) (x:=(t.next:Int)) rfl ?_
 rw[aP t.next (by omega)]
 refine ag.st h (i:=6) (by simp[qt]) rfl fun H1 r1 m1 z1=>?_
 have r1':ag H1 k wm (qt p (t.to (t.next+1)) sw ss):=r1
 have h1:Kc.size=1:=rfl
 refine⟨fun A=>ag A k wm (qt p (t.to (t.next+1)) sw ss),r1',?_⟩
 refine ag.jm (c:=bK) (i:=1) (x:=t.name) (cs:=fun _=>_) (fun _ q=>q) (fun _ _=>rfl) ?_
 have hsz:t.name.size+(ByteArray.mk #[126]).size≤1000001:=by show t.name.size+1≤_;omega
 refine⟨by omega,?_⟩
 refine r1'.ld (c:=ab .i64) (i:=6) (x:=((t.next+1:Nat):Int)) rfl ?_
 have e:IntKind.i64.wrap (((t.next+1:Nat):Int) - 1)=(t.next:Int):=by rw[wrap64 (by omega) (by omega)];omega
 rw[e]
 refine G5 hn ⟨r1',?_,hK H1 r1' m1 z1⟩
 have:=iX hn
 rw[ByteArray.size_append]
 omega
set_option maxHeartbeats 1000000 in
theorem wQ [Tab] {K:Int→aa→Prop} {x y:Nat} (hg:Gl H) (hgs:¬fH k sw rs ss aY) (h:qn H k p t sw rs ss) (hp:al F H p dp s) (dis:∀b,F b→¬fH k sw rs ss b) (hz:Di t) (b:Bd s x y) (hx:x<800000000000) (hy:y<50000000000)
  (hK:∀F' ss' H',al F' H' p dp (t.aside s).1→qn H' k p (t.aside s).2.1 dr [] ss'→(∀b,F' b→¬fH k dr [] ss' b)→Step (fun b=>F b∨fH k sw rs ss b) (fun b=>F' b∨fH k dr [] ss' b) H H'→K (t.aside s).2.2 H'):Dl.sp (aI k) H K:=by
 refine Dl.of ?_
 unfold Dl.vc
 unfold aI
 simp only[av]
 have hqs:=h.rd.wait.qr h.rd.few
 obtain⟨z1,z2⟩:=zQ h.rd.wait.len
 have hql:(rs.zip t.wait).length≤400000:=by
  have:=congrArg List.length z2
  rw[List.length_map] at this
  have:=hz.wait;omega
 have offQ:∀q∈rs.zip t.wait,∀b,ai q.1 b→∃x∈rs,ai x b:=fun q hq b hb=>⟨q.1,by rw[←z1];exact List.mem_map.2 ⟨q,hq,rfl⟩,hb⟩
 have hoffW:=h.rd.tM
 have hoffS:=h.tw
 have hk:=aL h.rd.row
 refine h.rd.row.ld (c:=an) (i:=4) (x:=sw) rfl ?_
 refine xG hqs (by omega) fun qs' A hP hsort hA mA=>?_
 have rA:=h.rd.row.mod mA hoffW
 refine rA.ld (c:=an) (i:=4) (x:=sw) rfl ?_
 have hPl:=hP.length_eq
 refine yD hA (by omega) fun n B hn hB mB=>?_
 have mAB:Mod (ai sw) H B:=mA.trans mB
 have rB:=h.rd.row.mod mAB hoffW
 refine qb rB hz.next hz.name fun C rC mC zC=>?_
 have sOff:∀b,ai ss b→¬ai sw b:=fun b hb=>h.side.apart h.rd.wait.out (by decide) b hb
 have sC:bc vY tj C ss t.side:=(h.side.mod mAB sOff).mod mC fun b hb q=>hoffS (q▸hb)
 refine rC.ld (c:=an) (i:=5) (x:=ss) rfl ?_
 refine bc.push (E:=vY) (x:=bN t.name t.next) Jm sC rfl (by have:=hz.side;omega) (by have:=hz.side;omega) fun ss' D oD gD _=>?_
 have zAB:=mAB.size
 have newOff:¬ai ss' k:=fun q=>by
  rcases gD.2 k q with r|r
  ·exact hoffS r
  ·omega
 have rD:=rC.mod gD.1 hoffS
 refine ag.st rD (i:=4) (by simp[qt]) rfl fun D1 r1 m1 z1'=>?_
 refine ag.st r1 (i:=5) (by simp[qt]) rfl fun D2 r2 m2 z2'=>?_
 have m12:Mod (fun q=>q=k) D D2:=m1.trans m2
 have r2':ag D2 k wm (qt p t.ov dr ss'):=r2
 have o2:bc vY tj D2 ss' (t.side++[bN t.name t.next]):=oD.mod m12 fun b hb q=>newOff (q▸hb)
 refine r2'.ld (c:=ar) (i:=0) (x:=aI p) rfl ?_
 refine r2'.ld (c:=ab .i64) (i:=2) (x:=t.width) rfl ?_
 -- what was written so far
 have zCD:=gD.1.size
 have zD2:=m12.size
 have mH:Mod (fH k sw rs ss) H D2:=by
  have a1:Mod (fH k sw rs ss) H C:=(mAB.mono fun b _ q=>.inr (.inl q)).trans' mC fun b _ q=>.inl q
  have a2:Mod (fH k sw rs ss) H D:=a1.trans' gD.1 fun b _ q=>.inr (.inr (.inr q))
  exact a2.trans' m12 fun b _ q=>.inl q
 have pD:al F D2 p dp s:=hp.aq fun b hb hl=>mH.same b hl (dis b hb)
 have gD2:Gl D2:=hg.mod mH hgs
 have lB:∀b,ai (⟨sw.a,n,sw.c⟩:Sl) b→ai sw b:=fun b hb=>hb
 have memQ:∀q∈gT qs',q∈rs.zip t.wait:=fun q hq=>hP.mem_iff.1 (uU hq)
 have ssW:∀b,ai sw b→b<H.size:=fun b hb=>(h.rd.wait.block.1 b hb).2
 have rowsD:kI D2 ⟨sw.a,n,sw.c⟩ (gT qs'):=by
  have keepO:∀b,b<H.size→¬ai ss b→b≠k→D2[b]?=B[b]?:=fun b hb n1 n2=>by
   have a1:=mC.same b (by omega) n2
   have a2:=gD.1.same b (by omega) n1
   have a3:=m12.same b (by omega) n2
   rw[a3,a2,a1]
  refine⟨hB.out.aq fun b hb _=>keepO b (ssW b hb) (fun q=>sOff b q hb) fun q=>hoffW (q▸hb),fun q hq=>(hB.own q hq).aq fun b hb _=>?_,hB.few⟩
  obtain⟨x,hx,hb'⟩:=offQ q (memQ q hq) b hb
  obtain⟨l,hl⟩:=h.rd.wait.rowAt hx
  exact keepO b ((h.rd.wait.block.2 x hx b hb').2) (fun q=>h.side.apart hl (by decide) b q hb') fun q=>h.rd.v7 x hx (q▸hb')
 have ekey:(gT qs').map (·.2)=ay (bp t.wait):=by rw[Bg,hsort,z2]
 have hol:(gT qs').length≤400000:=by
  have a:=dz t.wait
  have c:=congrArg List.length ekey
  rw[List.length_map] at c
  have:=hz.wait;omega
 unfold So.aside at hK
 rw[←ekey] at hK
 refine Ds gD2 pD rowsD (fun b hb q=>dis b q (.inr (.inl hb))) (fun q hq b hb r=>dis b r (.inr (.inr (.inl (offQ q (memQ q hq) b hb))))) (by omega) (by have:=iX hz.next;have:=hz.name;rw[ff];omega) b hx hy fun F' E pE SE=>?_
 have offE:∀b,fH k dr [] ss' b→¬F b:=by
  rintro b (q|q|⟨x,hx,_⟩|q) hb
  ·exact dis b hb (.inl q)
  ·exact absurd q (bE b)
  ·cases hx
  ·rcases gD.2 b q with r|r
   ·exact dis b hb (.inr (.inr (.inr r)))
   ·have:=hp.lt b hb;omega
 have ltE:∀b,fH k dr [] ss' b→b<D2.size:=by
  rintro b (q|q|⟨x,hx,_⟩|q)
  ·omega
  ·exact absurd q (bE b)
  ·cases hx
  ·exact o2.lt b q
 have hB2:qn D2 k p t.ov dr [] ss':=.mk' r2' (ax.nil _ _) o2 fun l hl=>(by cases hl)
 refine hK F' ss' E pE (hB2.mod SE.mod offE) (fun b hb q=>?_) ⟨(mH.mono fun b _ q=>.inr q).trans' SE.mod fun b _ q=>.inl q,fun b hb=>?_⟩
 ·rcases SE.own b hb with r|r
  ·exact offE b q r
  ·have:=ltE b q;omega
 ·rcases hb with q|q|q|⟨x,hx,_⟩|q
  ·rcases SE.own b q with r|r
   ·exact .inl (.inl r)
   ·exact .inr (by omega)
  ·exact .inl (.inr (.inl q))
  ·exact absurd q (bE b)
  ·cases hx
  ·rcases gD.2 b q with r|r
   ·exact .inl (.inr (.inr (.inr (.inr r))))
   ·exact .inr (by omega)
end
end Go.Proofs.YtacfhncgbgijhaaGreat
namespace Go.Proofs.YtacfhncgbgijhaaGreat
theorem uB [Tab]:∀{rs:List RR} {s:Pl} {x y:Nat},Bd s x y→x+rs.length<1000000000000→Bd (bj rs s).1 (x+rs.length) (y+rs.length)
 |[],s,x,y,h,_=>h
 |r::rs,s,x,y,h,hx=>by
   rw[List.length_cons] at hx ⊢
   have h1:=h.next (r:=r) (by omega)
   simp only[bj]
   split
   ·exact h1.mono (by omega) (by omega)
   ·exact(uB (rs:=rs) h1 (by omega)).mono (by omega) (by omega)
theorem DS [Tab] {s:Pl} {w:RW} {l:List Int} {x y:Nat} (h:Bd s x y) (hx:x<1000000000000):Bd (bg s w l).1 (x+1) (y+2):=by
 unfold bg
 split
 ·exact h.add hx l
 ·exact h.mono (by omega) (by omega)
theorem uc [Tab]:∀(f:Nat) {s:Pl} {rs:List RR} {hs:List (Option (List Int))} {w:RW} {x y:Nat},Bd s x y→x+2*f<999999999990→(ib f s rs hs w).1.fs.length≤4096→Bd (ib f s rs hs w).1 (x+2*f+2) (y+3*f+4200)
 |0,s,rs,hs,w,x,y,h,_,_=>h.mono (by omega) (by omega)
 |f+1,s,rs,hs,w,x,y,h,hx,hw=>by
   unfold ib at hw ⊢
   split at hw
   ·exact(h.close (by omega) hw).mono (by omega) (by omega)
   ·rename_i i l e
    have h1:=DS (w:=w) (l:=l) h (by omega)
    split at hw
    ·rename_i e1
     rw[if_pos e1]
     exact h1.mono (by omega) (by omega)
    ·rename_i e1
     rw[if_neg e1]
     have h2:=h1.next (r:=rs.getD i default) (by omega)
     split at hw
     ·rename_i e2
      rw[if_pos e2]
      exact h2.mono (by omega) (by omega)
     ·rename_i e2
      rw[if_neg e2]
      exact(uc f h2 (by omega) hw).mono (by omega) (by omega)
theorem uP [Tab] {W:Int}:∀{ns:List ByteArray} {s:Pl},(bf W ns s).2.1.length≤ns.length
 |[],s=>Nat.le_refl _
 |n::ns,s=>by
   simp only[bf]
   split
   ·exact Nat.zero_le _
   ·simp only[List.length_cons]
    have:=uP (W:=W) (ns:=ns) (s:=(rnOpen s n W).1)
    omega
theorem mV [Tab]:∀{rs:List RR} {s:Pl},(∀r∈rs,r.Ok)→dg (bj rs s).2.1+fZ (bj rs s).2.2.1≤dg rs
 |[],s,_=>Nat.le_refl _
 |r::rs,s,h=>by
   simp only[bj]
   split
   ·exact Nat.zero_le _
   ·have a:=RR.lW (h r List.mem_cons_self) s
    have b:=mV (rs:=rs) (s:=(r.next s).1) fun x hx=>h x (List.mem_cons_of_mem _ hx)
    simp only[dg,fZ,List.map_cons,List.sum_cons] at b ⊢
    omega
theorem xv [Tab] {W:Int}:∀{ns:List ByteArray} {s:Pl},∀r∈(bf W ns s).2.1,r.Ok
 |[],s,r,h=>by cases h
 |n::ns,s,r,h=>by
   simp only[bf] at h
   split at h
   ·cases h
   ·rename_i q e
    rcases List.mem_cons.1 h with u|u
    ·subst u;exact(oq e).1
    ·exact xv (ns:=ns) r u
theorem BR [Tab] {s:Pl} {ns:List ByteArray} {to:ByteArray} {W:Int} {x y N:Nat} (h:Bd s x y) (hl:ns.length≤1000) (hx:x+2*N<900000000000) (hN:dg (bf W ns s).2.1≤N) (hw:(dP s ns to W).1.fs.length≤4096):Bd (dP s ns to W).1 (x+2*N+3000) (y+3*N+9000):=by
 unfold dP at hw ⊢
 split at hw
 ·rename_i e
  rw[if_pos e]
  exact h.mono (by omega) (by omega)
 ·rename_i e
  rw[if_neg e]
  have h1:=rW (ns:=ns) (W:=W) h (by omega)
  split at hw
  ·rename_i e1
   rw[if_pos e1]
   exact h1.mono (by omega) (by omega)
  ·rename_i e1
   rw[if_neg e1]
   have h2:=h1.make (n:=to) (W:=W) (by omega)
   unfold lN at hw ⊢
   split at hw
   ·exact h2.mono (by omega) (by omega)
   ·rename_i w e2
    have hr:=uP (W:=W) (ns:=ns) (s:=s)
    have h3:=uB (rs:=(bf W ns s).2.1) h2 (by omega)
    have hc:=mV (s:=(bo (bf W ns s).1 to W).1) (xv (W:=W) (ns:=ns) (s:=s))
    unfold yL at hw ⊢
    split at hw
    ·rename_i e3
     rw[if_pos e3]
     exact h3.mono (by omega) (by omega)
    ·rename_i e3
     rw[if_neg e3]
     exact(uc _ h3 (by omega) hw).mono (by omega) (by omega)
theorem xp [Tab] {s:Pl} {n:ByteArray} {W:Int} {L:List (List Int)} {x y:Nat} (h:Bd s x y) (hx:x+L.length<900000000000) (hw:(jl s n W L).1.fs.length≤4096):Bd (jl s n W L).1 (x+L.length+10) (y+2*L.length+5000):=by
 have h1:=h.make (n:=n) (W:=W) (by omega)
 unfold jl at hw ⊢
 split at hw
 ·exact h1.mono (by omega) (by omega)
 ·rename_i w e
  have h2:=wP (L:=L) (w:=w) h1 (by omega)
  unfold ue at hw ⊢
  split at hw
  ·rename_i e1
   rw[if_pos e1]
   exact h2.mono (by omega) (by omega)
  ·rename_i e1
   rw[if_neg e1]
   exact(h2.close (by omega) hw).mono (by omega) (by omega)
open Go.MapKept
section
variable {H:aa} {k p dp:Nat} {t:So} {sw ss:Sl} {rs:List Sl} {F:Nat→Prop} {s:Pl}
theorem al.af [Tab] (h:al F H p dp s):s.fs.length≤4096:=Nat.le_trans h.wf.len h.wf.most.2
theorem Ea [Tab] {n:ByteArray} {W fr:Int} {K:(Option Addr×Int)→aa→Prop} (hp:al F H p dp s)
  (hK0:(rF s n W fr).1=none→K (none,(rF s n W fr).2) H) (hK1:(rF s n W fr).1=some (FM n W fr)→(rF s n W fr).2=0→∀H',Ext H H'→qn H' H.size p (FM n W fr) dr [] dr→K (aI H.size,0) H'):GA.sp (aI p) n W fr H K:=by
 refine GA.of ?_
 unfold GA.vc
 unfold rF at hK0 hK1
 have made:aU W≠0→¬(fr<3∨fr>s.most)→aD H #[(.pointer (aI p)),(.string n),(.int .i64 W),(.int .i64 fr),(.slice none 0 0),(.slice none 0 0),(.int .i64 (0:Int)),(.int .i64 (0:Int)),(.bool false)] wm fun p_1 H2=>K (some p_1,(0:Int)) H2:=fun h1 h2=>by
  rw[if_neg h1,if_neg h2] at hK1
  refine ak fun H1 z1 r1 e1=>?_
  exact hK1 rfl rfl H1 e1 (.mk' r1 (ax.nil _ _) (bc.nil _ _ _) fun l hl=>(by cases hl))
 refine aA rfl ?_
 refine kj ?_
 refine aj (fun hc=>?_) (fun hc=>?_)
 ·have h1:aU W=0:=by simpa using hc
  rw[if_pos h1] at hK0
  exact hK0 rfl
 have h1:aU W≠0:=by simpa using hc
 rw[if_neg h1] at hK0
 refine aj (fun hc=>?_) (fun hc=>?_)
 ·have h2:fr<3:=by simpa using hc
  rw[if_pos (.inl h2)] at hK0
  exact aZ hc (hK0 rfl)
 have h2:¬fr<3:=by simpa using hc
 refine pv hp ?_
 refine aj (fun hc=>?_) (fun hc=>?_)
 ·have h3:fr>s.most:=by simpa using hc
  rw[if_pos (.inr h3)] at hK0
  exact hK0 rfl
 have h3:¬fr>s.most:=by simpa using hc
 exact made h1 fun q=>q.elim h2 h3
set_option maxHeartbeats 1000000 in
theorem GP [Tab] {K:Int→aa→Prop} {l:Sl} {ll:List Int} {x y:Nat} (hg:Gl H) (hgs:¬fH k sw rs ss aY) (h:qn H k p t sw rs ss) (hp:al F H p dp s) (dis:∀b,F b→¬fH k sw rs ss b) (hz:Di t) (hz2:t.wait.length<400000) (hW:t.width≤16) (hl:Ints .u64 H l ll) (b:Bd s x y) (hx:x<800000000000) (hy:y<50000000000)
  (hK:∀F' sw' rs' ss' H',al F' H' p dp (t.add s ll).1→qn H' k p (t.add s ll).2.1 sw' rs' ss'→(∀b,F' b→¬fH k sw' rs' ss' b)→Step (fun b=>F b∨fH k sw rs ss b) (fun b=>F' b∨fH k sw' rs' ss' b) H H'→K (t.add s ll).2.2 H'):F7.sp (aI k) l H K:=by
 refine F7.of ?_
 unfold F7.vc
 unfold So.add at hK
 refine sg h.rd.row ?_
 unfold aI
 simp only[av]
 refine aj (fun hc=>?_) (fun hc=>?_)
 ·rw[if_pos (by simpa using hc)] at hK
  exact hK F sw rs ss H hp h dis (.refl _ _)
 rw[if_neg (by simpa using hc)] at hK
 refine h.rd.row.ld (c:=ab .i64) (i:=2) (x:=t.width) rfl ?_
 have hln:=hl.len
 refine aj (fun hc=>?_) (fun hc=>?_)
 ·have e1:(ll.length:Int)≠t.width:=by rw[←hln];simpa using hc
  rw[if_pos e1] at hK
  exact hK F sw rs ss H hp h dis (.refl _ _)
 have e1:¬(ll.length:Int)≠t.width:=by rw[←hln];simpa using hc
 rw[if_neg e1] at hK
 have hll:ll.length≤16:=by omega
 refine⟨fun A=>ag A k wm (qt p t sw ss),h.rd.row,?_⟩
 refine ag.jm (c:=an) (i:=4) (x:=sw) (cs:=fun _=>_) (fun _ q=>q) (fun _ _=>rfl) ?_
 refine oM hl (by omega) fun r A oA eA fA=>?_
 have hA:=h.mod eA fun _ _=>id
 have hk:=aL h.rd.row
 refine⟨hA.rd.row,?_⟩
 have hwn:=h.rd.wait.n
 show ag (A.push _) k _ _∧_
 refine⟨hA.rd.row.ext (Mod.push _ _ _),ax.Ag (base:=0) hA.rd.wait oA (fun x hx b hb hb'=>?_) (by omega) (Nat.zero_le _) fun s' B n1 o1 m1 g1=>?_⟩
 ·have:=fA b hb
  have:=(h.rd.wait.block.2 x hx b hb').2
  omega
 have hoffW:=hA.rd.tM
 have zA:=eA.size
 have newOff:¬ai s' k:=fun q=>by
  rcases g1 k q with r|r
  ·exact hoffW r
  ·omega
 refine ag.st (hA.rd.row.mod m1 hoffW) (i:=4) (by simp[qt]) rfl fun C rC mC zC=>?_
 obtain⟨t1,ht1⟩:∃t1:So,t1={t with wait:=t.wait++[ll]}:=⟨_,rfl⟩
 rw[←ht1] at hK
 have rC':ag C k wm (qt p t1 s' ss):=by rw[ht1];exact rC
 have j3:∀x∈rs++[r],¬ai x k:=fun x hx q=>by
  rcases List.mem_append.1 hx with u|u
  ·exact hA.rd.v7 x u q
  ·rw[List.mem_singleton] at u
   subst u
   have:=fA k q;omega
 have hC:qn C k p t1 s' (rs++[r]) ss:=by
  refine .mk' rC' ?_ ?_ ?_
  ·rw[ht1]
   exact o1.mod mC (fun b hb q=>newOff (q▸hb)) fun x hx b hb q=>j3 x hx (q▸hb)
  ·rw[ht1]
   exact(hA.side.mod m1 fun b hb q=>hA.side.apart hA.rd.wait.out (by decide) b hb q).mod mC fun b hb q=>hA.tw (q▸hb)
  ·rw[ht1]
   intro x hx
   rcases List.mem_append.1 hx with u|u
   ·exact h.rd.few x u
   ·rw[List.mem_singleton] at u
    subst u;exact hll
 have z1:=m1.size
 have mHC:Mod (fun b=>b=k∨ai sw b) H C:=((Ext.mod eA).trans' m1 fun b _ q=>.inr q).trans' mC fun b _ q=>.inl q
 have own':∀b,fH k s' (rs++[r]) ss b→fH k sw rs ss b∨H.size≤b:=by
  rintro b (q|q|⟨x,hx,q⟩|q)
  ·exact .inl (.inl q)
  ·rcases g1 b q with u|u
   ·exact .inl (.inr (.inl u))
   ·exact .inr (by omega)
  ·rcases List.mem_append.1 hx with u|u
   ·exact .inl (.inr (.inr (.inl ⟨x,u,q⟩)))
   ·rw[List.mem_singleton] at u
    subst u
    exact .inr (fA b q)
  ·exact .inl (.inr (.inr (.inr q)))
 have dis':∀b,F b→¬fH k s' (rs++[r]) ss b:=fun b hb q=>by
  rcases own' b q with u|u
  ·exact dis b hb u
  ·have:=hp.lt b hb;omega
 have pC:al F C p dp s:=hp.aq fun b hb hlt=>mHC.same b hlt fun q=>dis b hb (q.imp_right .inl)
 refine⟨fun A=>ag A k wm (qt p t1 s' ss),rC',?_⟩
 refine ag.jm (c:=an) (i:=4) (x:=s') (cs:=fun _=>_) (fun _ q=>q) (fun _ _=>rfl) ?_
 refine ag.jm (c:=ab .i64) (i:=3) (x:=t.af) (cs:=fun _=>_) (fun _ q=>q) (fun _ _=>by rw[ht1];rfl) ?_
 refine rC'.ld (c:=ab .i64) (i:=2) (x:=t.width) (by rw[ht1];rfl) ?_
 refine kj ⟨rC',?_⟩
 obtain⟨rm1,rm2⟩:=gm ⟨t.name,t.width,0,false⟩
 simp only at rm1
 have hf:=hz.af
 have p1:t.af*aU t.width≤1000000*504:=Int.mul_le_mul hf.2 (by omega) (by omega) (by decide)
 have p0:0≤t.af*aU t.width:=Int.mul_nonneg hf.1 (by omega)
 rw[wrap64 (by omega) (by omega)]
 have zH:=mHC.size
 refine aj (fun hc=>?_) (fun hc=>?_)
 ·have e2:((t.wait.length+1:Nat):Int)<t.af*aU t.width:=by
   have:(s'.n:Int)<t.af*aU t.width:=by simpa using hc
   omega
  rw[if_pos e2] at hK
  refine hK F s' (rs++[r]) ss C pC hC dis' ⟨mHC.mono fun b _ q=>.inr (q.imp_right .inl),fun b hb=>?_⟩
  rcases hb with u|u
  ·exact .inl (.inl u)
  ·exact(own' b u).imp .inr id
 ·have e2:¬((t.wait.length+1:Nat):Int)<t.af*aU t.width:=by
   have:¬(s'.n:Int)<t.af*aU t.width:=by simpa using hc
   omega
  rw[if_neg e2] at hK
  have hz1:Di t1:=by rw[ht1];exact⟨hz.name,by simp;omega,hz.side,hz.sizes,hz.next,hz.af⟩
  have gC:Gl C:=hg.mod mHC fun q=>hgs (q.imp_right .inl)
  refine wQ gC (fun q=>(own' _ q).elim hgs fun u=>by have:=hg.lt;omega) hC pC dis' hz1 b hx hy fun F2 ss2 D pD hD dD SD=>?_
  have offN:∀b,fH k dr [] ss2 b→¬b=k→ai ss2 b:=by
   rintro b (q|q|⟨x,hx,_⟩|q) hn
   ·exact absurd q hn
   ·exact absurd q (bE b)
   ·cases hx
   ·exact q
  refine ag.st hD.rd.row (i:=7) (by simp[qt]) rfl fun E rE mE zE=>?_
  have rE':ag E k wm (qt p {t1.ov with wrong:=(t1.aside s).2.2} dr ss2):=rE
  refine rE'.ld (c:=ab .i64) (i:=7) (x:=(t1.aside s).2.2) rfl ?_
  have hoffS:=hD.tw
  refine hK F2 dr [] ss2 E (pD.aq fun b hb hlt=>mE.same b hlt fun q=>dD b hb (.inl q)) (.mk' rE' (ax.nil _ _) (hD.side.mod mE fun b hb q=>hoffS (q▸hb)) fun l hl=>(by cases hl)) dD ⟨?_,fun b hb=>?_⟩
  ·have a1:Mod (fun b=>F b∨fH k sw rs ss b) H D:=(mHC.mono fun b _ q=>.inr (q.imp_right .inl)).trans' SD.mod fun b hb q=>q.imp_right fun u=>(own' b u).resolve_right (by omega)
   exact a1.trans' mE fun b _ q=>.inr (.inl q)
  ·rcases SD.own b hb with (u|u)|u
   ·exact .inl (.inl u)
   ·exact(own' b u).imp .inr id
   ·exact .inr (by omega)
end
section
variable {H:aa} {k p dp:Nat} {t:So} {sw ss:Sl} {rs:List Sl} {F:Nat→Prop} {s:Pl}
theorem He {a:Option Addr} {c lo n n' c' b:Nat} (h:ai (Sl.mk (dM a c lo 1) n c') b):ai (Sl.mk a n' c) b:=by
 obtain⟨ad,e1,e2⟩:=h
 have e1:dM a c lo 1=some ad:=e1
 unfold dM at e1
 split at e1
 ·exact⟨ad,e1,e2⟩
 ·cases a with
  |none=>cases e1
  |some a0=>
    simp at e1
    exact⟨a0,rfl,by rw[←e2,←e1,cU]⟩
set_option maxHeartbeats 1000000 in
theorem uv [Tab] {K:(Int×Int)→aa→Prop} {c x y N:Nat} {to:ByteArray} (hg:Gl H) (hgs:¬fH k sw rs ss aY) (h:qn H k p t sw rs ss) (hp:al F H p dp s) (dis:∀b,F b→¬fH k sw rs ss b) (hz:Di t) (hto:to.size≤9223372036854775807) (hc:c≤t.side.length) (b:Bd s x y) (hx:x+2*N<700000000000) (hy:y+3*N<40000000000)
  (hN:dg (bf t.width (t.side.take c) s).2.1≤N) (hN1:N≤1000000000)
  (hK:∀F' ss' H',al F' H' p dp (t.merge s c to).1→Im H' k p (t.merge s c to).2.1 sw rs ss'→(∀b,ai ss' b→ai ss b)→Mod (fun b=>F b∨b=k) H H'→(∀b,F' b→F b∨H.size≤b)→Bd (t.merge s c to).1 (x+2*N+3000) (y+3*N+9000)→K (((t.merge s c to).2.2.1:Int),(t.merge s c to).2.2.2) H'):FR.sp (aI k) (c:Int) to H K:=by
 refine FR.of ?_
 unfold FR.vc
 unfold aI
 simp only[av]
 have hn:=h.rd.n
 have hF0:=hp.fF
 refine h.rd.row.ld (c:=an) (i:=5) (x:=ss) rfl ?_
 refine⟨⟨by omega,by omega⟩,?_⟩
 simp only[Int.toNat_natCast,Nat.sub_zero,EX]
 refine h.rd.row.ld (c:=ar) (i:=0) (x:=aI p) rfl ?_
 refine h.rd.row.ld (c:=ab .i64) (i:=2) (x:=t.width) rfl ?_
 have hsS:=hz.side
 have htl:(t.side.take c).length=c:=by rw[List.length_take];omega
 have tw:∀b,ai ss b→¬F b:=fun b hb q=>dis b q (.inr (.inr (.inr hb)))
 have rdA:∀A,Mod F H A→gJ vY A ss.a t.side:=fun A m=>h.rd.names.aq fun ad ha hlt=>m.same _ hlt fun q=>tw _ ⟨ad,ha,rfl⟩ q
 refine Df (names:=Sl.mk ss.a c ss.c) hg hp htl.symm (fun A m=>(rdA A m).take) (fun n hn=>hz.sizes n (List.mem_of_mem_take hn)) hto b (by omega) (by omega) (by omega) hN hN1 fun F1 A p1 S1=>?_
 have bM:=BR (to:=to) b (by omega) (by omega) hN p1.af
 unfold So.merge at hK
 generalize dP s (t.side.take c) to t.width=m at*
 -- the side runs are dropped
 refine aB c (fun i z B=>z.2=(i:Int)∧∃F' s',al F' B p dp s'∧Step F F' H B∧Bd s' (x+2*N+3000) (y+3*N+9000)∧tY (t.side.take c) m=(if z.1≠0 then (s',z.1) else kn ((t.side.take c).drop i) s')) ⟨rfl,F1,m.1,p1,S1,bM,rfl⟩ ?_
 rintro i ⟨e,j⟩ B next hi ⟨hj,F2,s2,p2,S2,b2,h2⟩ hnext
 simp only at hj
 subst hj
 simp only at h2 ⊢
 have iu:ag B k wm (qt p t sw ss):=h.rd.row.mod S2.mod fun q=>dis k q (.inl rfl)
 have hgB:=hg.mod S2.mod hF0
 refine aj (fun hc2=>?_) (fun hc2=>?_)
 ·have hlt : i < c := by have : (i : Int) < (c : Int) := by simpa using hc2
                         omega
  have hni:(t.side.take c)[i]?=some ((t.side.take c)[i]'(by omega)):=List.getElem?_eq_getElem (by omega)
  have hd:(t.side.take c).drop i=(t.side.take c)[i]'(by omega)::(t.side.take c).drop (i+1):=List.drop_eq_getElem_cons (by omega)
  rw[hd] at h2
  refine gJ.one (E:=vY) (c:=bK) (s:=Sl.mk ss.a c ss.c) (rdA B S2.mod).take htl.symm rfl hni rfl ?_
  rw[aP i (by omega)]
  refine aj (fun hc3=>?_) (fun hc3=>?_)
  ·have e0:e=0:=by simpa using hc3
   rw[if_neg (by rw[e0];simp)] at h2
   refine iu.ld (c:=ar) (i:=0) (x:=aI p) rfl ?_
   refine AN hgB p2 fun F3 C p3 S3=>?_
   refine hnext hlt _ C ⟨rfl,F3,_,p3,S2.trans S3,b2.dt,?_⟩
   rw[h2]
   rfl
  ·have e0:e≠0:=by simpa using hc3
   rw[if_pos e0] at h2
   refine hnext hlt _ B ⟨rfl,F2,s2,p2,S2,b2,?_⟩
   simp only
   rw[if_pos e0];exact h2
 ·have hge : i = c := by have : ¬ (i : Int) < (c : Int) := by simpa using hc2
                         omega
  subst hge
  have hd:(t.side.take i).drop i=[]:=List.drop_of_length_le (by omega)
  rw[hd] at h2
  have he:tY (t.side.take i) m=(s2,e):=by
   rw[h2]
   by_cases q:e≠0
   ·rw[if_pos q]
   ·rw[if_neg q]
    simp only[kn]
    rw[Classical.not_not.1 q]
  rw[he] at hK
  refine iu.ld (c:=an) (i:=5) (x:=ss) rfl ?_
  refine⟨⟨by omega,by omega⟩,?_⟩
  refine ag.st iu (i:=5) (by simp[qt]) rfl fun C rC mC zC=>?_
  have mHC:Mod (fun b=>F b∨b=k) H C:=(S2.mod.mono fun b _ q=>.inl q).trans' mC fun b _ q=>.inr q
  have offK:¬F2 k:=fun q=>(S2.own k q).elim (fun r=>dis k r (.inl rfl)) fun r=>by have:=aL h.rd.row;omega
  have hoffS:=h.tw
  have hoffW:=h.rd.tM
  have offO:∀b,fH k sw rs ss b→b≠k→¬(F b∨b=k):=fun b hb hn q=>q.elim (fun u=>dis b u hb) hn
  refine hK F2 ⟨dM ss.a ss.c i 1,ss.n - i,ss.c - i⟩ C (p2.aq fun b hb hlt=>mC.same b hlt fun q=>offK (q▸hb)) ⟨rC,?_,?_,⟨by show ss.n - i=(t.side.drop i).length;rw[List.length_drop];omega,by show ss.n - i≤ss.c - i;omega⟩,h.rd.few⟩ (fun b hb=>He hb) mHC S2.own b2
  ·exact h.rd.wait.mod mHC (fun b hb=>offO b (.inr (.inl hb)) fun q=>hoffW (q▸hb)) fun x hx b hb=>offO b (.inr (.inr (.inl ⟨x,hx,hb⟩))) fun q=>h.rd.v7 x hx (q▸hb)
  ·have r1:gJ vY C ss.a t.side:=h.rd.names.aq fun ad ha hlt=>mHC.same _ hlt (offO ad.block (.inr (.inr (.inr ⟨ad,ha,rfl⟩))) fun q=>hoffS (q▸⟨ad,ha,rfl⟩))
   exact r1.drop (E:=vY) (by omega)
end
def So.iY [Tab] (N:Nat):Nat→So→Pl→Prop
 |0,_,_=>True
 |f+1,t,s=>t.af≤(t.side.length:Int)→dg (bf t.width (t.side.take (t.af - 1).toNat) s).2.1≤N∧((t.round s).2.2.2=0→So.iY N f {(t.round s).2.1 with side:=t.side.drop (t.af - 1).toNat++[bN t.name t.next]} (t.round s).1)
def So.IQ [Tab] (N:Nat) (r:Pl×So×Int):Prop:=r.2.2=0→dg (bf r.2.1.width (r.2.1.side.take r.2.1.side.length) r.1).2.1≤N
def So.qZ [Tab] (N:Nat) (r:Pl×So×Int):Prop:=r.2.2=0→r.2.1.iY N r.2.1.side.length r.1∧So.IQ N (r.2.1.rounds r.2.1.side.length r.1)
section
variable {H:aa} {k p dp:Nat} {t:So} {sw ss:Sl} {rs:List Sl} {F:Nat→Prop} {s:Pl}
theorem yR [Tab] {sl:Sl} {l:List ByteArray} {K:Sl→aa→Prop} (h:gJ vY H sl.a l) (hn:sl.n=l.length) (hl:l.length≤1000000)
  (hK:∀s' H',bc vY tj H' s' l→Ext H H'→(∀b,ai s' b→H.size≤b)→K s' H'):Ik.sp sl H K:=by
 refine Ik.of ?_
 unfold Ik.vc
 refine aj (fun hc=>?_) (fun hc=>?_)
 ·have:l=[]:=by
   cases l with
   |nil=>rfl
   |cons x r=>
     obtain⟨ad,ha⟩:=h.addr (by decide) (by simp)
     rw[ha] at hc;cases hc
  subst this
  exact hK _ H (bc.nil _ _ _) (.refl _ _) (by rintro b ⟨ad,q,_⟩;cases q)
 ·refine ak fun H1 s1 r1 m1=>?_
  have o1:bc vY tj H1 (Sl.mk (some ⟨H.size,0,none⟩) 0 0) []:=⟨rfl,.inr ⟨H.size,0,#[],rfl,Nat.zero_le _,r1,Nat.le_refl _,by unfold maxLen;omega,rfl,rfl⟩⟩
  have h1:gJ vY H1 sl.a l:=h.aq fun ad _ hlt=>m1.same _ hlt id
  refine bc.append (E:=vY) (s:=Sl.mk (some ⟨H.size,0,none⟩) 0 0) (x:=sl) (l:=[]) (r:=l) Jm o1 h1 hn (by simp;omega) (by simp;omega) fun s' H' o' g' _=>?_
  refine hK s' H' (by simpa using o') ⟨Nat.le_trans m1.size g'.1.size,fun b hb _=>(g'.1.same b (by omega) (by rintro⟨ad,e1,e2⟩;cases e1;have:H.size=b:=e2;omega)).trans (m1.same b hb id)⟩ fun b hb=>?_
  rcases g'.2 b hb with ⟨ad,e1,e2⟩|q
  ·cases e1;have:H.size=b:=e2;omega
  ·omega
theorem kX {ss2:Sl} {b:Nat} (h:fH k sw rs ss2 b) (hs:∀b,ai ss2 b→ai ss b):fH k sw rs ss b:=by
 rcases h with q|q|q|q
 ·exact .inl q
 ·exact .inr (.inl q)
 ·exact .inr (.inr (.inl q))
 ·exact .inr (.inr (.inr (hs b q)))
set_option maxRecDepth 100000 in
set_option maxHeartbeats 2000000 in
theorem Jo [Tab] {K:(Int×Int)→aa→Prop} {x y N:Nat} (hg:Gl H) (hgs:¬fH k sw rs ss aY) (h:qn H k p t sw rs ss) (hp:al F H p dp s) (dis:∀b,F b→¬fH k sw rs ss b) (hz:Di t) (h100:t.next+t.side.length+2≤100) (hfr:3≤t.af) (b:Bd s x y) (hN1:N≤90000000) (hx:x<100000000000) (hy:y<3000000000)
  (hle:So.qZ N (t.first s))
  (hK:∀F' sw' rs' ss' H',al F' H' p dp (So.tO (t.first s)).1→Im H' k p (So.tO (t.first s)).2.1 sw' rs' ss'→(∀b,F' b→¬fH k sw' rs' ss' b)→Step (fun b=>F b∨fH k sw rs ss b) (fun b=>F' b∨fH k sw' rs' ss' b) H H'→Bd (So.tO (t.first s)).1 (x+400010+101*(2*N+3000)) (y+805000+101*(3*N+9000))→K (((So.tO (t.first s)).2.2.1:Int),(So.tO (t.first s)).2.2.2) H'):HZ.sp (aI k) H K:=by
 refine HZ.of ?_
 unfold HZ.vc
 unfold aI
 simp only[av]
 have hgl:=hg.lt
 have hwn:=h.rd.wait.n
 refine⟨fun _ B=>(t.first s).2.2=0∧∃F' sw' rs' ss',al F' B p dp (t.first s).1∧qn B k p (t.first s).2.1 sw' rs' ss'∧(∀b,F' b→¬fH k sw' rs' ss' b)∧Step (fun b=>F b∨fH k sw rs ss b) (fun b=>F' b∨fH k sw' rs' ss' b) H B∧Bd (t.first s).1 (x+400010) (y+805000)∧Di (t.first s).2.1∧(t.first s).2.1.next+(t.first s).2.1.side.length≤100∧(t.first s).2.1.af=t.af,?_,?_⟩
 ·have aside:∀(Kb:Int→aa→Prop),(t.wait≠[]∨t.side=[])→(∀e B,e≠0→K (0,e) B→Kb e B)→(∀B,((t.first s).2.2=0∧∃F' sw' rs' ss',al F' B p dp (t.first s).1∧qn B k p (t.first s).2.1 sw' rs' ss'∧(∀b,F' b→¬fH k sw' rs' ss' b)∧Step (fun b=>F b∨fH k sw rs ss b) (fun b=>F' b∨fH k sw' rs' ss' b) H B∧Bd (t.first s).1 (x+400010) (y+805000)∧Di (t.first s).2.1∧(t.first s).2.1.next+(t.first s).2.1.side.length≤100∧(t.first s).2.1.af=t.af)→Kb 0 B)→
    Dl.sp (some ⟨k,0,none⟩) H Kb:=fun Kb hc k1 k2=>by
   have ef:t.first s=t.aside s:=if_pos hc
   rw[ef] at hK k2
   refine wQ hg hgs h hp dis hz b (by omega) (by omega) fun F' ss' B pB sB dB SB=>?_
   have hol:=dz t.wait
   have hw:=hz.wait
   have bd:Bd (t.aside s).1 (x+400010) (y+805000):=(xp b (by omega) pB.af).mono (by omega) (by omega)
   by_cases e0:(t.aside s).2.2=0
   ·rw[e0]
    refine k2 B ⟨e0,F',dr,[],ss',pB,sB,dB,SB,bd,⟨hz.name,Nat.zero_le _,?_,fun n hn=>?_,?_,hz.af⟩,?_,rfl⟩
    ·show (t.side++[_]).length≤1000
     simp;omega
    ·rcases List.mem_append.1 (show n∈t.side++[bN t.name t.next] from hn) with u|u
     ·exact hz.sizes n u
     ·rw[List.mem_singleton] at u
      subst u
      have:=iX hz.next
      have:=hz.name
      rw[ff];omega
    ·show t.next+1<100
     omega
    ·show t.next+1+(t.side++[_]).length≤100
     simp;omega
   ·unfold So.tO at hK
    rw[if_pos e0] at hK
    exact k1 _ B e0 (hK F' dr [] ss' B pB sB.rd dB SB (bd.mono (by omega) (by omega)))
  refine h.rd.row.ld (c:=an) (i:=4) (x:=sw) rfl ?_
  refine aj (fun hc=>?_) (fun hc=>?_)
  ·have hw:t.wait≠[]:=fun q=>by rw[q] at hwn;rw[hwn] at hc;simp at hc
   exact aside _ (.inl hw) (fun e B e0 q=>aZ (by simpa using e0) q) fun B q=>aA rfl q
  ·have hw:t.wait=[]:=by
    have:¬(sw.n:Int)>0:=by simpa using hc
    exact List.eq_nil_of_length_eq_zero (by omega)
   refine h.rd.row.ld (c:=an) (i:=5) (x:=ss) rfl ?_
   have hn:=h.rd.n.1
   refine aj (fun hc=>?_) (fun hc=>?_)
   ·have hs:t.side=[]:=by
     have:(ss.n:Int)=0:=by simpa using hc
     exact List.eq_nil_of_length_eq_zero (by omega)
    exact aside _ (.inr hs) (fun e B e0 q=>aZ (by simpa using e0) q) fun B q=>aA rfl q
   ·have hs:t.side≠[]:=fun q=>by rw[q] at hn;rw[hn] at hc;simp at hc
    have ef:t.first s=(s,t,0):=if_neg (by rintro(q|q);exact q hw;exact hs q)
    rw[ef]
    exact⟨rfl,F,sw,rs,ss,hp,h,dis,.refl _ _,b.mono (by omega) (by omega),hz,by show t.next+t.side.length≤100;omega,rfl⟩
 ·rintro _ A ⟨e0,F1,sw1,rs1,ss1,pA,sA,dA,SA,bA,zA,nA,fA⟩
  obtain⟨hle1,hle2⟩:=hle e0
  have eg:So.tO (t.first s)=So.last ((t.first s).2.1.rounds (t.first s).2.1.side.length (t.first s).1):=if_neg (by rw[e0];simp)
  rw[eg] at hK
  generalize hl:(t.first s).2.1.side.length=f0 at*
  have hl0:(t.first s).2.1.side.length≤f0:=Nat.le_of_eq hl
  have hf0:f0≤100:=by omega
  generalize (t.first s).2.1=t1 at*
  generalize (t.first s).1=s1 at*
  have hmul:f0*(2*N+3000)≤100*(2*N+3000):=Nat.mul_le_mul_right _ hf0
  have hmul2:f0*(3*N+9000)≤100*(3*N+9000):=Nat.mul_le_mul_right _ hf0
  refine⟨Nat,fun f _ B=>∃F' sw' rs' ss' t' s' xx yy,al F' B p dp s'∧qn B k p t' sw' rs' ss'∧(∀b,F' b→¬fH k sw' rs' ss' b)∧Step (fun b=>F b∨fH k sw rs ss b) (fun b=>F' b∨fH k sw' rs' ss' b) H B∧Bd s' xx yy∧xx+f*(2*N+3000)≤x+400010+f0*(2*N+3000)∧yy+f*(3*N+9000)≤y+805000+f0*(3*N+9000)∧Di t'∧t'.next+t'.side.length≤100∧t'.af=t.af∧t'.side.length≤f∧t1.rounds f0 s1=t'.rounds f s'∧t'.iY N f s',fun f=>f,
   ⟨f0,F1,sw1,rs1,ss1,t1,s1,x+400010,y+805000,pA,sA,dA,SA,bA,Nat.le_refl _,Nat.le_refl _,zA,by rw[hl];exact nA,fA,hl0,rfl,hle1⟩,?_⟩
  rintro f _ B ⟨F2,sw2,rs2,ss2,t2,s2,xx,yy,pB,sB,dB,SB,bB,bx,by',zB,nB,fB,lB,eB,leB⟩
  have hgB:Gl B:=hg.aq (SB.mod.same _ hgl fun q=>q.elim hp.fF hgs)
  have hgsB:¬fH k sw2 rs2 ss2 aY:=fun q=>by
   rcases SB.own _ (.inr q) with u|u
   ·exact u.elim hp.fF hgs
   ·omega
  have hnB:=sB.rd.n.1
  refine sB.rd.row.ld (c:=an) (i:=5) (x:=ss2) rfl ?_
  refine sB.rd.row.ld (c:=ab .i64) (i:=3) (x:=t2.af) rfl ?_
  refine aj (fun hc=>?_) (fun hc=>?_)
  ·have hge:t2.af≤(t2.side.length:Int):=by
    have:(ss2.n:Int)≥t2.af:=by simpa using hc
    omega
   cases f with
   |zero=>exact absurd lB (by omega)
   |succ f=>
   rw[Nat.succ_mul] at bx by'
   obtain⟨le1,le2⟩:=leB hge
   have er:t2.rounds (f+1) s2=if (t2.round s2).2.2.2≠0 then ((t2.round s2).1,(t2.round s2).2.1,(t2.round s2).2.2.2) else So.rounds f {(t2.round s2).2.1 with side:=t2.side.drop (t2.af - 1).toNat++[bN t2.name t2.next]} (t2.round s2).1:=if_pos hge
   have hnx:t2.next<98:=by omega
   refine qb sB.rd.row (by omega) zB.name fun C rC mC zC=>?_
   have offK:¬F2 k:=fun q=>dB k q (.inl rfl)
   have hoffW:=sB.rd.tM
   have hoffS:=sB.tw
   have sC:qn C k p (t2.to (t2.next+1)) sw2 rs2 ss2:=.mk' rC (sB.rd.wait.mod mC (fun b hb q=>hoffW (q▸hb)) fun x hx b hb q=>sB.rd.v7 x hx (q▸hb)) (sB.side.mod mC fun b hb q=>hoffS (q▸hb)) sB.rd.few
   have pC:al F2 C p dp s2:=pB.aq fun b hb hlt=>mC.same b hlt fun q=>offK (q▸hb)
   have gC:Gl C:=hgB.aq (mC.same _ hgB.lt fun q=>hgsB (.inl q))
   refine rC.ld (c:=ab .i64) (i:=3) (x:=t2.af) rfl ?_
   have hf:=zB.af
   have ec:IntKind.i64.wrap (t2.af - 1)=(((t2.af - 1).toNat:Nat):Int):=by rw[wrap64 (by omega) (by omega)];omega
   rw[ec]
   have zC2:Di (t2.to (t2.next+1)):=⟨zB.name,zB.wait,zB.side,zB.sizes,by show t2.next+1<100;omega,zB.af⟩
   refine uv (t:=t2.to (t2.next+1)) (c:=(t2.af - 1).toNat) gC hgsB sC pC dB zC2 (by have:=iX zB.next;have:=zB.name;rw[ff];omega) (by show (t2.af - 1).toNat≤t2.side.length;omega) bB (by omega) (by omega) le1 (by omega) fun F3 ss3 D pD sD oD mD wD bD=>?_
   have em:(t2.to (t2.next+1)).merge s2 (t2.af - 1).toNat (bN t2.name t2.next)=t2.round s2:=rfl
   rw[em] at pD sD bD ⊢
   have zBC:=mC.size
   have SD:Step (fun b=>F2 b∨fH k sw2 rs2 ss2 b) (fun b=>F3 b∨fH k sw2 rs2 ss3 b) B D:=by
    refine⟨(mC.mono fun b _ q=>.inr (.inl q)).trans' mD fun b _ q=>q.elim .inl fun u=>.inr (.inl u),fun b hb=>?_⟩
    rcases hb with u|u
    ·rcases wD b u with v|v
     ·exact .inl (.inl v)
     ·exact .inr (by omega)
    ·exact .inl (.inr (kX u oD))
   have dD:∀b,F3 b→¬fH k sw2 rs2 ss3 b:=fun b hb q=>by
    have q2:=kX q oD
    rcases wD b hb with v|v
    ·exact dB b v q2
    ·have:=sC.lt b q2;omega
   by_cases ee:(t2.round s2).2.2.2=0
   ·rw[if_neg (by rw[ee];simp)] at er
    refine aA (by rw[ee];rfl) ?_
    have e3:(t2.round s2).2.1={t2.to (t2.next+1) with side:=t2.side.drop (t2.af - 1).toNat}:=rfl
    have sD':Im D k p {t2.to (t2.next+1) with side:=t2.side.drop (t2.af - 1).toNat} sw2 rs2 ss3:=sD
    refine sD'.row.ld (c:=an) (i:=5) (x:=ss3) rfl ?_
    have hsl:=zB.side
    refine yR sD'.names sD'.n.1 (by show (t2.side.drop _).length≤_;rw[List.length_drop];omega) fun ss4 E oE eE fE=>?_
    refine bc.push (E:=vY) (x:=bN t2.name t2.next) Jm oE rfl (by show (t2.side.drop _).length+1≤_;rw[List.length_drop];omega) (by show ((t2.side.drop _).length+1)*_≤_;rw[List.length_drop];omega) fun ss5 G oG gG _=>?_
    have kD:=aL sD'.row
    have k5:¬ai ss5 k:=fun q=>by
     rcases gG.2 k q with u|u
     ·have:=fE k u;omega
     ·have:=eE.size;omega
    have k4:¬ai ss4 k:=fun q=>by have:=fE k q;omega
    have rG:ag G k wm (qt p {t2.to (t2.next+1) with side:=t2.side.drop (t2.af - 1).toNat} sw2 ss3):=(sD'.row.ext eE).mod gG.1 k4
    refine ag.st rG (i:=5) (by simp[qt]) rfl fun I rI mI zI=>?_
    have zE:=eE.size
    have zG:=gG.1.size
    have mDI:Mod (fun b=>b=k) D I:=by
     refine⟨by have:=mI.size;omega,fun b hb hn=>?_⟩
     rw[mI.same b (by omega) hn,gG.1.same b (by omega) (fun q=>by have:=fE b q;omega),eE.same b hb id]
    have own5:∀b,ai ss5 b→D.size≤b:=fun b hb=>by
     rcases gG.2 b hb with u|u
     ·exact fE b u
     ·omega
    have sI:qn I k p {(t2.round s2).2.1 with side:=t2.side.drop (t2.af - 1).toNat++[bN t2.name t2.next]} sw2 rs2 ss5:=by
     refine .mk' rI ?_ (oG.mod mI fun b hb q=>k5 (q▸hb)) sB.rd.few
     exact sD'.wait.mod mDI (fun b hb q=>sD'.tM (q▸hb)) fun x hx b hb q=>sD'.v7 x hx (q▸hb)
    have off3:¬F3 k:=fun q=>dD k q (.inl rfl)
    have z3:=mD.size
    refine⟨f,⟨F3,sw2,rs2,ss5,_,(t2.round s2).1,xx+2*N+3000,yy+3*N+9000,pD.aq fun b hb hlt=>mDI.same b hlt fun q=>off3 (q▸hb),sI,fun b hb q=>?_,?_,bD,by omega,by omega,⟨zB.name,zB.wait,?_,fun n hn=>?_,by show t2.next+1<100;omega,zB.af⟩,?_,fB,?_,?_,le2 ee⟩,Nat.lt_succ_self _⟩
    ·rcases q with u|u|u|u
     ·exact dD b hb (.inl u)
     ·exact dD b hb (.inr (.inl u))
     ·exact dD b hb (.inr (.inr (.inl u)))
     ·have:=own5 b u
      have:=pD.lt b hb
      omega
    ·have zHB:=SB.mod.size
     refine⟨(SB.mod.trans' SD.mod fun b hb q=>?_).trans' mDI fun b hb q=>?_,fun b hb=>?_⟩
     ·rcases SB.own b q with u|u
      ·exact u
      ·omega
     ·rcases SB.own b (.inr (.inl q)) with u|u
      ·exact u
      ·omega
     ·have up:∀b,(F3 b∨fH k sw2 rs2 ss3 b)→(F b∨fH k sw rs ss b)∨H.size≤b:=fun b hb=>by
       rcases SD.own b hb with u|u
       ·exact SB.own b u
       ·exact .inr (by omega)
      rcases hb with u|u|u|u|u
      ·exact up b (.inl u)
      ·exact up b (.inr (.inl u))
      ·exact up b (.inr (.inr (.inl u)))
      ·exact up b (.inr (.inr (.inr (.inl u))))
      ·exact .inr (by have:=own5 b u;omega)
    ·show (t2.side.drop _++[_]).length≤1000
     simp;omega
    ·rcases List.mem_append.1 (show n∈t2.side.drop (t2.af - 1).toNat++[bN t2.name t2.next] from hn) with u|u
     ·exact zB.sizes n (List.mem_of_mem_drop u)
     ·rw[List.mem_singleton] at u
      subst u
      have:=iX zB.next
      have:=zB.name
      rw[ff];omega
    ·show t2.next+1+(t2.side.drop _++[_]).length≤100
     simp;omega
    ·show (t2.side.drop _++[_]).length≤f
     simp;omega
    ·rw[eB,er]
   ·rw[if_pos ee] at er
    rw[eB,er] at hK
    unfold So.last at hK
    rw[if_pos ee] at hK
    refine aZ (by simpa using ee) (hK F3 sw2 rs2 ss3 D pD sD dD ⟨SB.mod.trans' SD.mod fun b hb q=>(SB.own b q).resolve_right (by omega),fun b hb=>?_⟩ (bD.mono (by omega) (by omega)))
    rcases SD.own b hb with u|u
    ·exact SB.own b u
    ·have:=SB.mod.size;exact .inr (by omega)
  ·have hlt:¬t2.af≤(t2.side.length:Int):=by
    have:¬(ss2.n:Int)≥t2.af:=by simpa using hc
    omega
   have er:t2.rounds f s2=(s2,t2,0):=by
    cases f with
    |zero=>rfl
    |succ f=>exact if_neg hlt
   rw[eB,er] at hK hle2
   have hN2:dg (bf t2.width (t2.side.take t2.side.length) s2).2.1≤N:=hle2 rfl
   unfold So.last at hK
   rw[if_neg (by simp)] at hK
   refine sB.rd.row.ld (c:=an) (i:=5) (x:=ss2) rfl ?_
   refine sB.rd.row.ld (c:=bK) (i:=1) (x:=t2.name) rfl ?_
   rw[hnB]
   have:0≤f*(2*N+3000):=Nat.zero_le _
   have:0≤f*(3*N+9000):=Nat.zero_le _
   refine uv (c:=t2.side.length) hgB hgsB sB pB dB zB (by have:=zB.name;omega) (Nat.le_refl _) bB (by omega) (by omega) hN2 (by omega) fun F3 ss3 D pD sD oD mD wD bD=>?_
   have zHB:=SB.mod.size
   refine hK F3 sw2 rs2 ss3 D pD sD (fun b hb q=>?_) ⟨SB.mod.trans' mD fun b hb q=>?_,fun b hb=>?_⟩ (bD.mono (by omega) (by omega))
   ·have q2:=kX q oD
    rcases wD b hb with v|v
    ·exact dB b v q2
    ·have:=sB.lt b q2;omega
   ·have:F2 b∨fH k sw2 rs2 ss2 b:=q.elim .inl fun u=>.inr (.inl u)
    exact(SB.own b this).resolve_right (by omega)
   ·rcases hb with u|u
    ·rcases wD b u with v|v
     ·exact SB.own b (.inl v)
     ·exact .inr (by omega)
    ·exact SB.own b (.inr (kX u oD))
set_option maxRecDepth 100000 in
theorem Fc [Tab] {K:(Int×Int)→aa→Prop} {x y N:Nat} (hg:Gl H) (hgs:¬fH k sw rs ss aY) (h:qn H k p t sw rs ss) (hp:al F H p dp s) (dis:∀b,F b→¬fH k sw rs ss b) (hz:Di t) (h100:t.next+t.side.length+2≤100) (hfr:3≤t.af) (b:Bd s x y) (hN1:N≤90000000) (hx:x<100000000000) (hy:y<3000000000)
  (hle:t.ready=0→So.qZ N (t.first s))
  (hK:∀F' sw' rs' ss' H',al F' H' p dp (t.done s).1→ag H' k wm (qt p (t.done s).2.1 sw' ss')→(∀b,F' b→¬fH k sw' rs' ss' b)→Step (fun b=>F b∨fH k sw rs ss b) (fun b=>F' b∨fH k sw' rs' ss' b) H H'→Bd (t.done s).1 (x+400010+101*(2*N+3000)) (y+805000+101*(3*N+9000))→K (((t.done s).2.2.1:Int),(t.done s).2.2.2) H'):Hn.sp (aI k) H K:=by
 refine Hn.of ?_
 unfold Hn.vc
 refine sg h.rd.row ?_
 unfold So.done at hK
 refine aj (fun hc=>?_) (fun hc=>?_)
 ·rw[if_pos (by simpa using hc)] at hK
  exact hK F sw rs ss H hp h.rd.row dis (.refl _ _) (b.mono (Nat.le_trans (Nat.le_add_right x 400010) (Nat.le_add_right _ _)) (Nat.le_trans (Nat.le_add_right y 805000) (Nat.le_add_right _ _)))
 have hr:¬t.ready≠0:=by simpa using hc
 rw[if_neg hr] at hK
 refine Jo hg hgs h hp dis hz h100 hfr b hN1 hx hy (hle (Classical.not_not.1 hr)) fun F1 sw1 rs1 ss1 A pA sA dA SA bA=>?_
 unfold aI
 simp only[av]
 unfold So.ends at hK
 have go:∀(B:aa),Mod (fun b=>b=k) A B→B.size=A.size→al F1 B p dp (So.tO (t.first s)).1∧Step (fun b=>F b∨fH k sw rs ss b) (fun b=>F1 b∨fH k sw1 rs1 ss1 b) H B:=fun B m z=>
  ⟨pA.aq fun b hb hlt=>m.same b hlt fun q=>dA b hb (.inl q),⟨SA.mod.trans' m fun b hb q=>(SA.own b (.inr (.inl q))).resolve_right (by omega),SA.own⟩⟩
 refine aj (fun hc=>?_) (fun hc=>?_)
 ·rw[if_pos (by simpa using hc)] at hK
  refine ag.st sA.row (i:=7) (by simp[qt]) rfl fun B rB mB zB=>?_
  obtain⟨q1,q2⟩:=go B mB zB
  exact hK F1 sw1 rs1 ss1 B q1 rB dA q2 bA
 ·rw[if_neg (by simpa using hc)] at hK
  refine ag.st sA.row (i:=8) (by simp[qt]) rfl fun B rB mB zB=>?_
  obtain⟨q1,q2⟩:=go B mB zB
  exact hK F1 sw1 rs1 ss1 B q1 rB dA q2 bA
end
end Go.Proofs.YtacfhncgbgijhaaGreat
