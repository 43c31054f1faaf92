/-
 The document's disk: what it tells of itself; a change; files looked up and made.
-/
import Derived.Test.YtdpdmbceakdlmaaGreatDoorDra
namespace Go.Proofs.YtdpdmbceakdlmaaGreatDoor
open Go.MapKept
theorem aJ.n {H:Heap} {fl:Sl} {gs:List (Sl×Sl)} {fs:List Fl} (h:aJ H fl gs fs):fl.n=fs.length:=by
 rw[h.arr.n (by decide),ft _ _ h.len]
theorem aJ.Ga {H:Heap} {fl:Sl} {gs:List (Sl×Sl)} {fs:List Fl} (h:aJ H fl gs fs) {i:Nat} {f:Fl} {g:Sl×Sl} (hf:fs[i]?=some f) (hg:gs[i]?=some g) {K:(ByteArray×Sl×Sl)→Prop} (hK:K (f.name,g.1,g.2)):
  ab fl.a fun a=>(0≤(i:Int)∧(i:Int)<(fl.n:Int))∧dE (cX [aR,aq,aq]) 3 H (a.add ((i:Int).toNat*3)) K:=by
 have hi:=(List.getElem?_eq_some_iff.1 hf).1
 obtain⟨ad,ha⟩:=cL.addr h.arr.rd (by decide) (by rw[ft _ _ h.len];omega)
 rw[ha]
 refine⟨⟨by omega,by rw[h.n];omega⟩,?_⟩
 exact cL.dE (E:=qj) (c:=cX [aR,aq,aq]) (y:=(f.name,g.1,g.2)) h.arr.rd ha (j3 _ _ i f g hf hg) rfl (by simp[qj]) rfl hK
theorem aJ.ld1 {H:Heap} {fl:Sl} {gs:List (Sl×Sl)} {fs:List Fl} (h:aJ H fl gs fs) {i j:Nat} {f:Fl} {g:Sl×Sl} (hf:fs[i]?=some f) (hg:gs[i]?=some g) {c:dN} {y:c.α} (hj:(qj.enc (f.name,g.1,g.2))[j]?=some (c.enc y)) {K:c.α→Prop} (hK:K y):
  ab fl.a fun a=>(0≤(i:Int)∧(i:Int)<(fl.n:Int))∧ld c H ((a.add ((i:Int).toNat*3)).add j) K:=by
 have hi:=(List.getElem?_eq_some_iff.1 hf).1
 obtain⟨ad,ha⟩:=cL.addr h.arr.rd (by decide) (by rw[ft _ _ h.len];omega)
 rw[ha]
 refine⟨⟨by omega,by rw[h.n];omega⟩,?_⟩
 exact cL.ld (E:=qj) (c:=c) h.arr.rd ha (j3 _ _ i f g hf hg) hj (by simp[qj]) hK
theorem q9 {fl:Sl} {gs:List (Sl×Sl)} {d:Nat} {cs:Array Value} {s:Dk} {H:Heap} {K:Int→Heap→Prop} (hd:ai H d sK cs) (hc0:cs[0]?=some fl.v) (hf:aJ H fl gs s.files) (hu:s.used≤2097152) (hfl:s.files.length≤4096) (hlogs:s.logs<68719476736) (hK:∀H',Mod (fun _=>False) H H'→K s.used H'):C6.sp (ay d) H K:=by
 refine C6.of ?_
 unfold C6.vc
 simp only[ak]
 have hn:=hf.n
 refine aw s.files.length (fun k x H1=>x=(((((s.files.take k).map fun f=>f.ao.length).sum:Nat):Int),(k:Int))∧Mod (fun _=>False) H H1) ⟨rfl,.refl _ _⟩ ?_
 rintro k _ H1 next hk ⟨rfl,m1⟩ hnext
 have h1:=hd.ext m1
 have f1:aJ H1 fl gs s.files:=hf.keep fun b hb hl=>m1.same b hl id
 refine h1.ld (c:=aq) (i:=0) (x:=fl) hc0 ?_
 refine ag (fun hc=>?_) (fun hc=>?_)
 ·have hlt:k<s.files.length:=by rw[hn] at hc;simpa using hc
  have hfk:s.files[k]?=some s.files[k]:=List.getElem?_eq_getElem hlt
  obtain⟨f,hfe⟩:∃f,f=s.files[k]:=⟨_,rfl⟩
  rw[←hfe] at hfk
  obtain⟨gg,hg,q1,q2⟩:=f1.yc hfk
  refine h1.ld (c:=aq) (i:=0) (x:=fl) hc0 ?_
  refine f1.Ga hfk hg ?_
  have hpl:=Dk.dH hfk
  have hll:=Dk.iY hfk
  refine jB q1 q2 (by omega) (by omega) fun l H2 o2 m2 _=>?_
  have hln:=o2.n (by decide)
  have hsum:((s.files.take (k+1)).map fun f=>f.ao.length).sum=((s.files.take k).map fun f=>f.ao.length).sum+f.ao.length:=by
   rw[List.take_succ_eq_append_getElem hlt,←hfe];simp
  have hle:((s.files.take (k+1)).map fun f=>f.ao.length).sum≤s.used:=by
   unfold Dk.used
   conv=>rhs;rw[←List.take_append_drop (k+1) s.files,List.map_append,List.sum_append]
   omega
  refine hnext hlt _ _ ⟨?_,m1.trans m2⟩
  rw[aK k (by omega),hsum,hln,wrap64 (by omega) (by omega)]
  simp
 ·have hge:k=s.files.length:=by rw[hn] at hc;simp at hc;omega
  rw[hge,List.take_of_length_le (Nat.le_refl _)]
  exact hK H1 m1
def kZ (s:Dk) (n:ByteArray):Int:=match s.idx n with|some i=>(i:Int)|none=>-1
theorem lY {fl:Sl} {gs:List (Sl×Sl)} {d:Nat} {cs:Array Value} {s:Dk} {H:Heap} {n:ByteArray} {K:Int→Heap→Prop} (hd:ai H d sK cs) (hc0:cs[0]?=some fl.v) (hf:aJ H fl gs s.files) (hw:s.files.length≤4096)
  (hK:K (kZ s n) H):yQ.sp (ay d) n H K:=by
 refine yQ.of ?_
 unfold yQ.vc
 simp only[ak]
 have hn:=hf.n
 refine aw s.files.length (fun k x H1=>x=(k:Int)∧H1=H∧∀j (hj:j<s.files.length),j<k→(s.files[j].name.toList==n.toList)=false) ⟨rfl,rfl,fun j _ h=>by omega⟩ ?_
 rintro k _ H1 next hk ⟨rfl,rfl,hno⟩ hnext
 refine hd.ld (c:=aq) (i:=0) (x:=fl) hc0 ?_
 refine ag (fun hc=>?_) (fun hc=>?_)
 ·have hlt:k<s.files.length:=by rw[hn] at hc;simpa using hc
  have hfk:s.files[k]?=some s.files[k]:=List.getElem?_eq_getElem hlt
  obtain⟨gg,hg,_⟩:=hf.yc hfk
  refine hd.ld (c:=aq) (i:=0) (x:=fl) hc0 ?_
  refine hf.ld1 hfk hg (j:=0) (c:=aR) (y:=s.files[k].name) rfl ?_
  refine ag (fun hq=>?_) (fun hq=>?_)
  ·have:s.idx n=some k:=by
    unfold Dk.idx
    rw[List.findIdx?_eq_some_iff_getElem]
    exact⟨hlt,hq,fun j hj=>by simpa using hno j (by omega) hj⟩
   unfold kZ at hK;rw[this] at hK
   exact hK
  ·refine hnext hlt _ _ ⟨aK k (by omega),rfl,fun j hj hjk=>?_⟩
   rcases Nat.lt_or_ge j k with q|q
   ·exact hno j hj q
   ·have:j=k:=by omega
    subst this;exact hq
 ·have hge:k=s.files.length:=by rw[hn] at hc;simp at hc;omega
  have:s.idx n=none:=by
   unfold Dk.idx
   rw[List.findIdx?_eq_none_iff]
   intro f hf'
   obtain⟨j,hj,rfl⟩:=List.getElem_of_mem hf'
   exact hno j hj (by omega)
  unfold kZ at hK;rw[this] at hK
  exact hK
theorem xq {n:ByteArray} {H:Heap} {K:Bool→Heap→Prop} (hK:K (named n) H):DN.sp n H K:=by
 refine DN.of ?_
 unfold DN.vc
 have e:((decide ((n.size:Int)≥1))&&(decide ((n.size:Int)≤100)))=named n:=by
  unfold named
  congr 1<;>(rw[decide_eq_decide];omega)
 rw[e];exact hK
theorem gY.aZ {fl:Sl} {gs:List (Sl×Sl)} {cin kp cin' kp':Int} {H H':Heap} {d:Nat} {s s':Dk} (h:gY fl gs cin kp H d s) (hr:ai H' d sK (cZ fl s'.most s'.quota s'.ops s'.next s'.crash.isSome cin' kp' s'.down))
  (hm:Mod (fun b=>b=d) H H') (hf:s'.files=s.files) (hc:iP s' cin' kp') (hwf:s'.WF):gY fl gs cin' kp' H' d s':=
 ⟨hr,hc,by rw[hf];exact h.files.keep fun b hb hl=>hm.same b hl fun e=>gY.off h.head h.files (e▸hb),hwf⟩
theorem kH {fl:Sl} {gs:List (Sl×Sl)} {cin kp:Int} {d:Nat} {s:Dk} {H:Heap} {K:Int→Heap→Prop} (h:gY fl gs cin kp H d s)
  (hK:∀cin' H',gY fl gs cin' kp H' d s.change.1→Mod (fun b=>b=d) H H'→H'.size=H.size→K s.change.2 H'):BO.sp (ay d) H K:=by
 refine BO.of ?_
 unfold BO.vc
 simp only[ak]
 have hwf:=h.wf.change
 have hfi:=s.aX
 have hup:∀(cin':Int) (H':Heap),ai H' d sK (cZ fl s.change.1.most s.change.1.quota s.change.1.ops s.change.1.next s.change.1.crash.isSome cin' kp s.change.1.down)→iP s.change.1 cin' kp→Mod (fun b=>b=d) H H'→H'.size=H.size→K s.change.2 H':=
  fun cin' H' hr hc hm hs=>hK cin' H' (h.aZ hr hm hfi hc hwf) hm hs
 have hh:=h.head
 have hcr:=h.crash
 refine hh.ld (c:=ax) (i:=5) (x:=s.crash.isSome) rfl ?_
 cases hc:s.crash with
 |none=>
   have hs0:s.crash.isSome=false:=by rw[hc];rfl
   refine ar rfl ?_
   refine hh.ld (c:=ax) (i:=5) (x:=s.crash.isSome) rfl ?_
   refine ar hs0 ?_
   refine hh.ld (c:=aa .i64) (i:=3) (x:=s.ops) rfl ?_
   refine hh.st (i:=3) (by simp[cZ]) (by rfl) fun H' r' m' s'=>?_
   have e:s.change=({s with ops:=cR (s.ops+1)},0):=by unfold Dk.change;rw[hc]
   rw[e] at hup
   exact hup cin H' r' (by intro i k q;rw[show ({s with ops:=cR (s.ops+1)}:Dk).crash=s.crash from rfl,hc] at q;cases q) m' s'
 |some ik=>
   obtain⟨i,k⟩:=ik
   obtain⟨rfl,rfl⟩:=hcr i k hc
   have hs1:s.crash.isSome=true:=by rw[hc];rfl
   refine aU rfl ?_
   refine hh.ld (c:=aa .i64) (i:=6) (x:=cin) rfl ?_
   refine ag (fun hz=>?_) (fun hz=>?_)
   ·have hz':cin=0:=by simpa using hz
    have e:s.change=({s with down:=true},4):=by unfold Dk.change;rw[hc];simp[hz']
    rw[e] at hup
    refine hh.st (i:=8) (by simp[cZ]) (by rfl) fun H' r' m' s'=>?_
    exact hup cin H' r' (by intro i k q;exact hcr i k q) m' s'
   ·have hz':cin≠0:=by simpa using hz
    have e:s.change=({s with crash:=some (cR (cin - 1),kp),ops:=cR (s.ops+1)},0):=by unfold Dk.change;rw[hc];simp[hz']
    rw[e] at hup
    refine hh.ld (c:=ax) (i:=5) (x:=s.crash.isSome) rfl ?_
    refine aU hs1 ?_
    refine hh.ld (c:=aa .i64) (i:=6) (x:=cin) rfl ?_
    refine hh.st (i:=6) (by simp[cZ]) (by rfl) fun H1 r1 m1 s1=>?_
    refine r1.ld (c:=aa .i64) (i:=3) (x:=s.ops) rfl ?_
    refine r1.st (i:=3) (by simp[cZ]) (by rfl) fun H2 r2 m2 s2=>?_
    refine hup (cR (cin - 1)) H2 ?_ (by intro i k q;simp only[Option.some.injEq,Prod.mk.injEq] at q;exact q) (m1.trans m2) (by omega)
    rw[hc] at r2
    exact r2
theorem Cz {q:Int} {H:Heap} {K:Option Addr→Heap→Prop} (hq:q≤9223372036854775807) (hK:∀F d H',bY F H' d (gk q)→Mod (fun _=>False) H H'→(∀b,F b→H.size≤b)→K (ay d) H'):DR.sp q H K:=by
 refine DR.of ?_
 unfold DR.vc
 refine au fun H2 s2 r2 e2=>?_
 refine hK (fun b=>b=H.size) _ H2 ⟨Sl.mk none 0 0,[],0,0,⟨?_,?_,?_,?_⟩,?_⟩ e2 (fun b e=>by omega)
 ·have:((if (1048576:Int)<(if (0:Int)>q then (0:Int) else q) then (1048576:Int) else (if (0:Int)>q then (0:Int) else q)))=((gk q).quota:Int):=by
   unfold gk;simp only;split<;>split<;>omega
  rw[this] at r2
  exact r2
 ·intro i k h;cases h
 ·exact⟨aG.nil _ _ _,rfl,by intro i f g h;simp[gk] at h,by intro i j g g' h;simp at h⟩
 ·exact⟨by simp[gk],by simp[gk,Dk.used],by simp[gk],by simp[gk];omega,by simp[gk],by simp[gk],by intro i k h;cases h⟩
 ·intro b
  constructor
  ·exact fun e=>.inl e
  ·rintro(e|⟨ad,q,_⟩|⟨g,hg,_⟩)
   ·exact e
   ·cases q
   ·simp at hg
theorem xK {F:Nat→Prop} {d:Nat} {s:Dk} {H:Heap} {i k:Int} {K:Unit→Heap→Prop} (h:bY F H d s) (hi:i≤9223372036854775807)
  (hK:∀F' H',bY F' H' d (s.cc i k)→Step F F' H H'→K () H'):DH.sp (ay d) i k H K:=by
 have h0:=h
 obtain⟨fl,gs,cin,kp,g,hF⟩:=h
 refine DH.of ?_
 unfold DH.vc
 simp only[ak]
 refine g.head.ld (c:=ax) (i:=8) (x:=s.down) rfl ?_
 cases hd:s.down with
 |true=>
   refine aU rfl (hK F H ?_ (.refl _ _))
   have:s.cc i k=s:=by unfold Dk.cc;rw[hd];rfl
   rw[this];exact h0
 |false=>
   refine ar rfl ?_
   have hc:s.cc i k={s with crash:=some (max i 0,k)}:=by unfold Dk.cc;rw[hd];rfl
   refine g.head.st (i:=5) (by simp[cZ]) (by rfl) fun H1 r1 m1 s1=>?_
   refine r1.st (i:=6) (by simp[cZ]) (by rfl) fun H2 r2 m2 s2=>?_
   refine r2.st (i:=7) (by simp[cZ]) (by rfl) fun H' r' m' s'=>?_
   have e:(if (0:Int)>i then (0:Int) else i)=max i 0:=by split<;>omega
   rw[e] at r'
   have gg:gY fl gs (max i 0) k H' d (s.cc i k):=by
    rw[hc]
    refine g.aZ (s':={s with crash:=some (max i 0,k)}) r' ((m1.trans m2).trans m') rfl (by intro i' k' q;simp only[Option.some.injEq,Prod.mk.injEq] at q;exact q) ⟨g.wf.nodup,g.wf.used,g.wf.most,g.wf.quota,g.wf.files,fun _=>rfl,?_⟩
    intro i' k' q
    simp only[Option.some.injEq,Prod.mk.injEq] at q
    obtain⟨rfl,rfl⟩:=q
    omega
   obtain⟨F',q1,q2⟩:=gg.out (fl:=fl) (gs:=gs) (F:=F) (H:=H) hF (((m1.trans m2).trans m').mono fun b _ e=>(hF b).2 (.inl e)) (fun b q=>.inl q)
   exact hK F' H' q1 q2
end Go.Proofs.YtdpdmbceakdlmaaGreatDoor
