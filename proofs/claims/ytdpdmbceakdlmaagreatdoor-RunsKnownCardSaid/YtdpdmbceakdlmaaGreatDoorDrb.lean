/-
 The document's disk: what it tells of itself; a change; files looked up and made.
-/
import Derived.Test.YtdpdmbceakdlmaaGreatDoorDra
open List renaming getElem?_eq_some_iff->KI,getElem?_eq_getElem->KJ
open Option.some renaming injEq->LC
open Prod.mk renaming injEq->Lw
namespace Go.Proofs.YtdpdmbceakdlmaaGreatDoor
open Go.MapKept
theorem aO.n {H:Heap}{fl:Sl}{gs:List (Sl×Sl)}{fs:List Fl}(h:aO H fl gs fs):fl.n=fs.length:=by
 rw[h.arr.n (by decide),fZ _ _ h.len]
theorem aO.I2 {H:Heap}{fl:Sl}{gs:List (Sl×Sl)}{fs:List Fl}(h:aO H fl gs fs){i:Nat}{f:Fl}{g:Sl×Sl}(hf:fs[i]?=some f)(hg:gs[i]?=some g){K:(ByteArray×Sl×Sl)->Prop}(hK:K (f.name,g.1,g.2)):
  ab fl.a λa=>(0<=(i:Int)/\(i:Int)<(fl.n:Int))/\dI (dr [aV,av,av]) 3 H (a.add ((i:Int).toNat*3)) K:=by
 have hi:=(KI.1 hf).1
 obtain⟨ad,ha⟩:=cS.addr h.arr.rd (by decide) (by rw[fZ _ _ h.len];omega)
 rw[ha]
 refine⟨⟨by omega,by rw[h.n];omega⟩,?_⟩
 exact cS.dI (E:=rU) (c:=dr [aV,av,av]) (y:=(f.name,g.1,g.2)) h.arr.rd ha (lA _ _ i f g hf hg) rfl (by simp[rU]) rfl hK
theorem aO.ld1 {H:Heap}{fl:Sl}{gs:List (Sl×Sl)}{fs:List Fl}(h:aO H fl gs fs){i j:Nat}{f:Fl}{g:Sl×Sl}(hf:fs[i]?=some f)(hg:gs[i]?=some g){c:eN}{y:c.α}(hj:(rU.enc (f.name,g.1,g.2))[j]?=some (c.enc y)){K:c.α->Prop}(hK:K y):
  ab fl.a λa=>(0<=(i:Int)/\(i:Int)<(fl.n:Int))/\ld c H ((a.add ((i:Int).toNat*3)).add j) K:=by
 have hi:=(KI.1 hf).1
 obtain⟨ad,ha⟩:=cS.addr h.arr.rd (by decide) (by rw[fZ _ _ h.len];omega)
 rw[ha]
 refine⟨⟨by omega,by rw[h.n];omega⟩,?_⟩
 exact cS.ld (E:=rU) (c:=c) h.arr.rd ha (lA _ _ i f g hf hg) hj (by simp[rU]) hK
theorem sV {fl:Sl}{gs:List (Sl×Sl)}{d:Nat}{cs:Array Value}{s:Dk}{H:Heap}{K:Int->Heap->Prop}(hd:aj H d uR cs)(hc0:cs[0]?=some fl.v)(hf:aO H fl gs s.files)(hu:s.used<=2097152)(hfl:s.files.length<=4096)(hlogs:s.logs<68719476736)(hK:∀H',Mod (λ_=>False) H H'->K s.used H'):FL.sp (aD d) H K:=by
 refine FL.of ?_
 unfold FL.vc
 simp only[aq]
 have hn:=hf.n
 refine ay s.files.length (λk x H1=>x=(((((s.files.take k).map λf=>f.au.length).sum:Nat):Int),(k:Int))/\Mod (λ_=>False) H H1) ⟨rfl,.refl _ _⟩ ?_
 rintro k _ H1 next hk ⟨rfl,m1⟩ hnext
 have h1:=hd.ext m1
 have f1:aO H1 fl gs s.files:=hf.ak λb hb hl=>m1.same b hl id
 refine h1.ld (c:=av) (i:=0) (x:=fl) hc0 ?_
 refine ae (λhc=>?_) (λhc=>?_)
 ·have hlt:k<s.files.length:=by rw[hn] at hc;simpa using hc
  have hfk:s.files[k]?=some s.files[k]:=KJ hlt
  obtain⟨f,hfe⟩:∃f,f=s.files[k]:=⟨_,rfl⟩
  rw[<-hfe] at hfk
  obtain⟨gg,hg,q1,q2⟩:=f1.zN hfk
  refine h1.ld (c:=av) (i:=0) (x:=fl) hc0 ?_
  refine f1.I2 hfk hg ?_
  have hpl:=Dk.eH hfk
  have hll:=Dk.jy hfk
  refine kJ q1 q2 (by omega) (by omega) λl H2 o2 m2 _=>?_
  have hln:=o2.n (by decide)
  have hsum:((s.files.take (k+1)).map λf=>f.au.length).sum=((s.files.take k).map λf=>f.au.length).sum+f.au.length:=by
   rw[List.take_succ_eq_append_getElem hlt,<-hfe];simp
  have hle:((s.files.take (k+1)).map λf=>f.au.length).sum<=s.used:=by
   unfold Dk.used
   conv=>rhs;rw[<-List.take_append_drop (k+1) s.files,List.map_append,List.sum_append]
   omega
  refine hnext hlt _ _ ⟨?_,m1.trans m2⟩
  rw[aI k (by omega),hsum,hln,wrap64 (by omega) (by omega)]
  simp
 ·have hge:k=s.files.length:=by rw[hn] at hc;simp at hc;omega
  rw[hge,List.take_of_length_le (Nat.le_refl _)]
  exact hK H1 m1
def mR (s:Dk)(n:ByteArray):Int:=match s.idx n with|some i=>(i:Int)|none=>-1
theorem nk {fl:Sl}{gs:List (Sl×Sl)}{d:Nat}{cs:Array Value}{s:Dk}{H:Heap}{n:ByteArray}{K:Int->Heap->Prop}(hd:aj H d uR cs)(hc0:cs[0]?=some fl.v)(hf:aO H fl gs s.files)(hw:s.files.length<=4096)
  (hK:K (mR s n) H):Bq.sp (aD d) n H K:=by
 refine Bq.of ?_
 unfold Bq.vc
 simp only[aq]
 have hn:=hf.n
 refine ay s.files.length (λk x H1=>x=(k:Int)/\H1=H/\∀j (hj:j<s.files.length),j<k->(s.files[j].name.toList==n.toList)=false) ⟨rfl,rfl,λj _ h=>by omega⟩ ?_
 rintro k _ H1 next hk ⟨rfl,rfl,hno⟩ hnext
 refine hd.ld (c:=av) (i:=0) (x:=fl) hc0 ?_
 refine ae (λhc=>?_) (λhc=>?_)
 ·have hlt:k<s.files.length:=by rw[hn] at hc;simpa using hc
  have hfk:s.files[k]?=some s.files[k]:=KJ hlt
  obtain⟨gg,hg,_⟩:=hf.zN hfk
  refine hd.ld (c:=av) (i:=0) (x:=fl) hc0 ?_
  refine hf.ld1 hfk hg (j:=0) (c:=aV) (y:=s.files[k].name) rfl ?_
  refine ae (λhq=>?_) (λhq=>?_)
  ·have:s.idx n=some k:=by
    unfold Dk.idx
    rw[List.findIdx?_eq_some_iff_getElem]
    exact⟨hlt,hq,λj hj=>by simpa using hno j (by omega) hj⟩
   unfold mR at hK;rw[this] at hK
   exact hK
  ·refine hnext hlt _ _ ⟨aI k (by omega),rfl,λj hj hjk=>?_⟩
   rcases Nat.lt_or_ge j k with q|q
   ·exact hno j hj q
   ·have:j=k:=by omega
    subst this;exact hq
 ·have hge:k=s.files.length:=by rw[hn] at hc;simp at hc;omega
  have:s.idx n=none:=by
   unfold Dk.idx
   rw[List.findIdx?_eq_none_iff]
   intro f hf'
   obtain⟨j,hj,rfl⟩:=List.getElem_of_mem hf'
   exact hno j hj (by omega)
  unfold mR at hK;rw[this] at hK
  exact hK
theorem Bi {n:ByteArray}{H:Heap}{K:Bool->Heap->Prop}(hK:K (named n) H):Gm.sp n H K:=by
 refine Gm.of ?_
 unfold Gm.vc
 have e:((decide ((n.size:Int)>=1))&&(decide ((n.size:Int)<=100)))=named n:=by
  unfold named
  congr 1<;>(rw[decide_eq_decide];omega)
 rw[e];exact hK
theorem iW.bf {fl:Sl}{gs:List (Sl×Sl)}{cin kp cin' kp':Int}{H H':Heap}{d:Nat}{s s':Dk}(h:iW fl gs cin kp H d s)(hr:aj H' d uR (dt fl s'.most s'.quota s'.ops s'.next s'.crash.isSome cin' kp' s'.down))
  (hm:Mod (λb=>b=d) H H') (hf:s'.files=s.files) (hc:jz s' cin' kp') (hwf:s'.WF):iW fl gs cin' kp' H' d s':=
 ⟨hr,hc,by rw[hf];exact h.files.ak λb hb hl=>hm.same b hl λe=>iW.off h.head h.files (e▸hb),hwf⟩
theorem mJ {fl:Sl}{gs:List (Sl×Sl)}{cin kp:Int}{d:Nat}{s:Dk}{H:Heap}{K:Int->Heap->Prop}(h:iW fl gs cin kp H d s)
  (hK:∀cin' H',iW fl gs cin' kp H' d s.change.1->Mod (λb=>b=d) H H'->H'.size=H.size->K s.change.2 H'):DV.sp (aD d) H K:=by
 refine DV.of ?_
 unfold DV.vc
 simp only[aq]
 have hwf:=h.wf.change
 have hfi:=s.bc
 have hup:∀(cin':Int) (H':Heap),aj H' d uR (dt fl s.change.1.most s.change.1.quota s.change.1.ops s.change.1.next s.change.1.crash.isSome cin' kp s.change.1.down)->jz s.change.1 cin' kp->Mod (λb=>b=d) H H'->H'.size=H.size->K s.change.2 H':=
  λcin' H' hr hc hm hs=>hK cin' H' (h.bf hr hm hfi hc hwf) hm hs
 have hh:=h.head
 have hcr:=h.crash
 refine hh.ld (c:=aA) (i:=5) (x:=s.crash.isSome) rfl ?_
 cases hc:s.crash with
 |none=>
   have hs0:s.crash.isSome=false:=by rw[hc];rfl
   refine aw rfl ?_
   refine hh.ld (c:=aA) (i:=5) (x:=s.crash.isSome) rfl ?_
   refine aw hs0 ?_
   refine hh.ld (c:=aa .i64) (i:=3) (x:=s.ops) rfl ?_
   refine hh.st (i:=3) (by simp[dt]) (by rfl) λH' r' m' s'=>?_
   have e:s.change=({s with ops:=da (s.ops+1)},0):=by unfold Dk.change;rw[hc]
   rw[e] at hup
   exact hup cin H' r' (by intro i k q;rw[show ({s with ops:=da (s.ops+1)}:Dk).crash=s.crash from rfl,hc] at q;cases q) m' s'
 |some ik=>
   obtain⟨i,k⟩:=ik
   obtain⟨rfl,rfl⟩:=hcr i k hc
   have hs1:s.crash.isSome=true:=by rw[hc];rfl
   refine aP rfl ?_
   refine hh.ld (c:=aa .i64) (i:=6) (x:=cin) rfl ?_
   refine ae (λhz=>?_) (λhz=>?_)
   ·have hz':cin=0:=by simpa using hz
    have e:s.change=({s with down:=true},4):=by unfold Dk.change;rw[hc];simp[hz']
    rw[e] at hup
    refine hh.st (i:=8) (by simp[dt]) (by rfl) λH' r' m' s'=>?_
    exact hup cin H' r' (by intro i k q;exact hcr i k q) m' s'
   ·have hz':cin≠0:=by simpa using hz
    have e:s.change=({s with crash:=some (da (cin - 1),kp),ops:=da (s.ops+1)},0):=by unfold Dk.change;rw[hc];simp[hz']
    rw[e] at hup
    refine hh.ld (c:=aA) (i:=5) (x:=s.crash.isSome) rfl ?_
    refine aP hs1 ?_
    refine hh.ld (c:=aa .i64) (i:=6) (x:=cin) rfl ?_
    refine hh.st (i:=6) (by simp[dt]) (by rfl) λH1 r1 m1 s1=>?_
    refine r1.ld (c:=aa .i64) (i:=3) (x:=s.ops) rfl ?_
    refine r1.st (i:=3) (by simp[dt]) (by rfl) λH2 r2 m2 s2=>?_
    refine hup (da (cin - 1)) H2 ?_ (by intro i k q;simp only[LC,Lw] at q;exact q) (m1.trans m2) (by omega)
    rw[hc] at r2
    exact r2
theorem Fq {q:Int}{H:Heap}{K:Option Addr->Heap->Prop}(hq:q<=9223372036854775807)(hK:∀F d H',cr F H' d (gm q)->Mod (λ_=>False) H H'->(∀b,F b->H.size<=b)->K (aD d) H'):GJ.sp q H K:=by
 refine GJ.of ?_
 unfold GJ.vc
 refine ao λH2 s2 r2 e2=>?_
 refine hK (λb=>b=H.size) _ H2 ⟨Sl.mk none 0 0,[],0,0,⟨?_,?_,?_,?_⟩,?_⟩ e2 (λb e=>by omega)
 ·have:((if (1048576:Int)<(if (0:Int)>q then (0:Int) else q) then (1048576:Int) else (if (0:Int)>q then (0:Int) else q)))=((gm q).quota:Int):=by
   unfold gm;simp only;split<;>split<;>omega
  rw[this] at r2
  exact r2
 ·intro i k h;cases h
 ·exact⟨aK.nil _ _ _,rfl,by intro i f g h;simp[gm] at h,by intro i j g g' h;simp at h⟩
 ·exact⟨by simp[gm],by simp[gm,Dk.used],by simp[gm],by simp[gm];omega,by simp[gm],by simp[gm],by intro i k h;cases h⟩
 ·intro b
  constructor
  ·exact λe=>.inl e
  ·rintro(e|⟨ad,q,_⟩|⟨g,hg,_⟩)
   ·exact e
   ·cases q
   ·simp at hg
theorem zK {F:Nat->Prop}{d:Nat}{s:Dk}{H:Heap}{i k:Int}{K:Unit->Heap->Prop}(h:cr F H d s)(hi:i<=9223372036854775807)
  (hK:∀F' H',cr F' H' d (s.cD i k)->Step F F' H H'->K () H'):GR.sp (aD d) i k H K:=by
 have h0:=h
 obtain⟨fl,gs,cin,kp,g,hF⟩:=h
 refine GR.of ?_
 unfold GR.vc
 simp only[aq]
 refine g.head.ld (c:=aA) (i:=8) (x:=s.down) rfl ?_
 cases hd:s.down with
 |true=>
   refine aP rfl (hK F H ?_ (.refl _ _))
   have:s.cD i k=s:=by unfold Dk.cD;rw[hd];rfl
   rw[this];exact h0
 |false=>
   refine aw rfl ?_
   have hc:s.cD i k={s with crash:=some (max i 0,k)}:=by unfold Dk.cD;rw[hd];rfl
   refine g.head.st (i:=5) (by simp[dt]) (by rfl) λH1 r1 m1 s1=>?_
   refine r1.st (i:=6) (by simp[dt]) (by rfl) λH2 r2 m2 s2=>?_
   refine r2.st (i:=7) (by simp[dt]) (by rfl) λH' r' m' s'=>?_
   have e:(if (0:Int)>i then (0:Int) else i)=max i 0:=by split<;>omega
   rw[e] at r'
   have gg:iW fl gs (max i 0) k H' d (s.cD i k):=by
    rw[hc]
    refine g.bf (s':={s with crash:=some (max i 0,k)}) r' ((m1.trans m2).trans m') rfl (by intro i' k' q;simp only[LC,Lw] at q;exact q) ⟨g.wf.nodup,g.wf.used,g.wf.most,g.wf.quota,g.wf.files,λ_=>rfl,?_⟩
    intro i' k' q
    simp only[LC,Lw] at q
    obtain⟨rfl,rfl⟩:=q
    omega
   obtain⟨F',q1,q2⟩:=gg.out (fl:=fl) (gs:=gs) (F:=F) (H:=H) hF (((m1.trans m2).trans m').mono λb _ e=>(hF b).2 (.inl e)) (λb q=>.inl q)
   exact hK F' H' q1 q2
end Go.Proofs.YtdpdmbceakdlmaaGreatDoor
