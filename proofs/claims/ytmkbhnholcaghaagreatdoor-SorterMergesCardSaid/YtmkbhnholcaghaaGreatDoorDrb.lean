/-
 The document's disk: what it tells of itself; a change; files looked up and made.
-/
import Derived.Test.YtmkbhnholcaghaaGreatDoorDra
open List renaming getElem?_eq_some_iff->Om,getElem?_eq_getElem->On
open Option.some renaming injEq->Pj
open Prod.mk renaming injEq->Pp
namespace Go.Proofs.YtmkbhnholcaghaaGreatDoor
open Go.MapKept
theorem aK.n {H:aa}{fl:Sl}{gs:List (Sl×Sl)}{fs:List Fl}(h:aK H fl gs fs):fl.n=fs.length:=by
 rw[h.arr.n (by decide),fg _ _ h.len]
theorem aK.LV {H:aa}{fl:Sl}{gs:List (Sl×Sl)}{fs:List Fl}(h:aK H fl gs fs){i:Nat}{f:Fl}{g:Sl×Sl}(b:fs[i]?=some f)(e:gs[i]?=some g){K:(ByteArray×Sl×Sl)->Prop}(j:K (f.name,g.1,g.2)):
  ae fl.a λa=>(0<=(i:Int)/\(i:Int)<(fl.n:Int))/\c9 (bR [aH,ak,ak]) 3 H (a.add ((i:Int).toNat*3)) K:=by
 have hi:=(Om.1 b).1;obtain⟨ad,d⟩:=bQ.addr h.arr.rd (by decide) (by rw[fg _ _ h.len];omega);rw[d];refine⟨⟨by omega,by rw[h.n];omega⟩,?_⟩;exact bQ.c9 (E:=pT) (c:=bR [aH,ak,ak]) (y:=(f.name,g.1,g.2)) h.arr.rd d (mP _ _ i f g b e) rfl (by simp[pT]) rfl j
theorem aK.ld1 {H:aa}{fl:Sl}{gs:List (Sl×Sl)}{fs:List Fl}(h:aK H fl gs fs){i j:Nat}{f:Fl}{g:Sl×Sl}(b:fs[i]?=some f)(e:gs[i]?=some g){c:eM}{y:c.α}(k:(pT.enc (f.name,g.1,g.2))[j]?=some (c.enc y)){K:c.α->Prop}(l:K y):
  ae fl.a λa=>(0<=(i:Int)/\(i:Int)<(fl.n:Int))/\ld c H ((a.add ((i:Int).toNat*3)).add j) K:=by
 have hi:=(Om.1 b).1;obtain⟨ad,d⟩:=bQ.addr h.arr.rd (by decide) (by rw[fg _ _ h.len];omega);rw[d];refine⟨⟨by omega,by rw[h.n];omega⟩,?_⟩;exact bQ.ld (E:=pT) (c:=c) h.arr.rd d (mP _ _ i f g b e) k (by simp[pT]) l
theorem vj {fl:Sl}{gs:List (Sl×Sl)}{d:Nat}{cs:Array Value}{s:Dk}{H:aa}{K:Int->aa->Prop}(hd:aj H d wY cs)(h:cs[0]?=some fl.v)(r:aK H fl gs s.files)(hu:s.used<=2097152)(u:s.files.length<=4096)(o:s.aB<68719476736)(v:∀H',Mod (λ_=>False) H H'->K s.used H'):Iq.sp (aE d) H K:=by
 refine Iq.of ?_;unfold Iq.vc;simp only[al];have t:=r.n;refine ar s.files.length (λk x H1=>x=(((((s.files.take k).map λf=>f.aq.length).sum:Nat):Int),(k:Int))/\Mod (λ_=>False) H H1) ⟨rfl,.refl _ _⟩ ?_;rintro k _ H1 next hk ⟨rfl,m1⟩ e
 have h1:=hd.ext m1;have f1:aK H1 fl gs s.files:=r.keep λb D hl=>m1.same b hl id;refine h1.ld (c:=ak) (i:=0) (x:=fl) h ?_;refine ag (λj=>?_) (λj=>?_)
 ·have g:k<s.files.length:=by rw[t] at j;simpa using j
  have a:s.files[k]?=some s.files[k]:=On g;obtain⟨f,m⟩:∃f,f=s.files[k]:=⟨_,rfl⟩;rw[<-m] at a;obtain⟨E,w,y,z⟩:=f1.BT a;refine h1.ld (c:=ak) (i:=0) (x:=fl) h ?_;refine f1.LV a w ?_;have A:=Dk.eR a;have B:=Dk.ki a;refine lF y z (by omega) (by omega) λl F C m2 _=>?_;have p:=C.n (by decide);have n:((s.files.take (k+1)).map λf=>f.aq.length).sum=((s.files.take k).map λf=>f.aq.length).sum+f.aq.length:=by
   rw[List.take_succ_eq_append_getElem g,<-m];simp
  have hle:((s.files.take (k+1)).map λf=>f.aq.length).sum<=s.used:=by
   unfold Dk.used
   conv=>rhs;rw[<-List.take_append_drop (k+1) s.files,List.map_append,List.sum_append]
   omega
  refine e g _ _ ⟨?_,m1.trans m2⟩;rw[aD k (by omega),n,p,wrap64 (by omega) (by omega)];simp
 ·have q:k=s.files.length:=by rw[t] at j;simp at j;omega
  rw[q,List.take_of_length_le (Nat.le_refl _)];exact v H1 m1
def lH (s:Dk)(n:ByteArray):Int:=match s.idx n with|some i=>(i:Int)|none=>-1
theorem kK {fl:Sl}{gs:List (Sl×Sl)}{d:Nat}{cs:Array Value}{s:Dk}{H:aa}{n:ByteArray}{K:Int->aa->Prop}(hd:aj H d wY cs)(m:cs[0]?=some fl.v)(r:aK H fl gs s.files)(hw:s.files.length<=4096)
  (g:K (lH s n) H):Be.sp (aE d) n H K:=by
 refine Be.of ?_;unfold Be.vc;simp only[al];have v:=r.n;refine ar s.files.length (λk x H1=>x=(k:Int)/\H1=H/\∀j (l:j<s.files.length),j<k->(s.files[j].name.toList==n.toList)=false) ⟨rfl,rfl,λj _ h=>by omega⟩ ?_;rintro k _ H1 next hk ⟨rfl,rfl,a⟩ b
 refine hd.ld (c:=ak) (i:=0) (x:=fl) m ?_;refine ag (λo=>?_) (λo=>?_)
 ·have e:k<s.files.length:=by rw[v] at o;simpa using o
  have p:s.files[k]?=some s.files[k]:=On e;obtain⟨B,w,_⟩:=r.BT p;refine hd.ld (c:=ak) (i:=0) (x:=fl) m ?_;refine r.ld1 p w (j:=0) (c:=aH) (y:=s.files[k].name) rfl ?_;refine ag (λt=>?_) (λt=>?_)
  ·have:s.idx n=some k:=by
    unfold Dk.idx;rw[List.findIdx?_eq_some_iff_getElem];exact⟨e,t,λj l=>by simpa using a j (by omega) l⟩
   unfold lH at g;rw[this] at g;exact g
  ·refine b e _ _ ⟨aD k (by omega),rfl,λj l z=>?_⟩;rcases Nat.lt_or_ge j k with q|q
   ·exact a j l q
   ·have:j=k:=by omega
    subst this;exact t
 ·have A:k=s.files.length:=by rw[v] at o;simp at o;omega
  have:s.idx n=none:=by
   unfold Dk.idx;rw[List.findIdx?_eq_none_iff];intro f u;obtain⟨j,l,rfl⟩:=List.getElem_of_mem u;exact a j l (by omega)
  unfold lH at g;rw[this] at g;exact g
theorem CW {n:ByteArray}{H:aa}{K:Bool->aa->Prop}(a:K (named n) H):Jq.sp n H K:=by
 refine Jq.of ?_;unfold Jq.vc;have e:((decide ((n.size:Int)>=1))&&(decide ((n.size:Int)<=100)))=named n:=by
  unfold named;congr 1<;>(rw[decide_eq_decide];omega)
 rw[e];exact a
theorem iq.dq {fl:Sl}{gs:List (Sl×Sl)}{cin kp a c:Int}{H H':aa}{d:Nat}{s s':Dk}(h:iq fl gs cin kp H d s)(g:aj H' d wY (de fl s'.most s'.quota s'.ops s'.next s'.crash.isSome a c s'.down))
  (hm:Mod (λb=>b=d) H H') (i:s'.files=s.files) (j:ku s' a c) (f:s'.WF):iq fl gs a c H' d s':=
 ⟨g,j,by rw[i];exact h.files.keep λb k hl=>hm.same b hl λe=>iq.off h.head h.files (e▸k),f⟩
theorem kO {fl:Sl}{gs:List (Sl×Sl)}{cin kp:Int}{d:Nat}{s:Dk}{H:aa}{K:Int->aa->Prop}(h:iq fl gs cin kp H d s)
  (w:∀a H',iq fl gs a kp H' d s.change.1->Mod (λb=>b=d) H H'->H'.size=H.size->K s.change.2 H'):E0.sp (aE d) H K:=by
 refine E0.of ?_;unfold E0.vc;simp only[al];have n:=h.wf.change;have o:=s.bm;have f:∀(a:Int) (H':aa),aj H' d wY (de fl s.change.1.most s.change.1.quota s.change.1.ops s.change.1.next s.change.1.crash.isSome a kp s.change.1.down)->ku s.change.1 a kp->Mod (λb=>b=d) H H'->H'.size=H.size->K s.change.2 H':=
  λa H' y g hm hs=>w a H' (h.dq y hm o g n) hm hs
 have j:=h.head;have m:=h.crash;refine j.ld (c:=ay) (i:=5) (x:=s.crash.isSome) rfl ?_;cases g:s.crash with
 |none=>
   have p:s.crash.isSome=false:=by rw[g];rfl
   refine aC rfl ?_;refine j.ld (c:=ay) (i:=5) (x:=s.crash.isSome) rfl ?_;refine aC p ?_;refine j.ld (c:=ab .i64) (i:=3) (x:=s.ops) rfl ?_;refine j.st (i:=3) (by simp[de]) (by rfl) λH' r' r s'=>?_;have e:s.change=({s with ops:=fC (s.ops+1)},0):=by unfold Dk.change;rw[g]
   rw[e] at f;exact f cin H' r' (by intro i k q;rw[show ({s with ops:=fC (s.ops+1)}:Dk).crash=s.crash from rfl,g] at q;cases q) r s'
 |some z=>
   obtain⟨i,k⟩:=z;obtain⟨rfl,rfl⟩:=m i k g;have t:s.crash.isSome=true:=by rw[g];rfl
   refine aP rfl ?_;refine j.ld (c:=ab .i64) (i:=6) (x:=cin) rfl ?_;refine ag (λu=>?_) (λu=>?_)
   ·have l:cin=0:=by simpa using u
    have e:s.change=({s with down:=true},4):=by unfold Dk.change;rw[g];simp[l]
    rw[e] at f;refine j.st (i:=8) (by simp[de]) (by rfl) λH' r' r s'=>?_;exact f cin H' r' (by intro i k q;exact m i k q) r s'
   ·have l:cin≠0:=by simpa using u
    have e:s.change=({s with crash:=some (fC (cin - 1),kp),ops:=fC (s.ops+1)},0):=by unfold Dk.change;rw[g];simp[l]
    rw[e] at f;refine j.ld (c:=ay) (i:=5) (x:=s.crash.isSome) rfl ?_;refine aP t ?_;refine j.ld (c:=ab .i64) (i:=6) (x:=cin) rfl ?_;refine j.st (i:=6) (by simp[de]) (by rfl) λH1 v m1 s1=>?_;refine v.ld (c:=ab .i64) (i:=3) (x:=s.ops) rfl ?_;refine v.st (i:=3) (by simp[de]) (by rfl) λA r2 m2 s2=>?_;refine f (fC (cin - 1)) A ?_ (by intro i k q;simp only[Pj,Pp] at q;exact q) (m1.trans m2) (by omega);rw[g] at r2;exact r2
theorem IQ {q:Int}{H:aa}{K:Option Addr->aa->Prop}(m:q<=9223372036854775807)(a:∀F d H',cq F H' d (ry q)->Mod (λ_=>False) H H'->(∀b,F b->H.size<=b)->K (aE d) H'):JU.sp q H K:=by
 refine JU.of ?_;unfold JU.vc;refine av λc s2 r2 e2=>?_;refine a (λb=>b=H.size) _ c ⟨Sl.mk none 0 0,[],0,0,⟨?_,?_,?_,?_⟩,?_⟩ e2 (λb e=>by omega)
 ·have:((if (1048576:Int)<(if (0:Int)>q then (0:Int) else q) then (1048576:Int) else (if (0:Int)>q then (0:Int) else q)))=((ry q).quota:Int):=by
   unfold ry;simp only;split<;>split<;>omega
  rw[this] at r2;exact r2
 ·intro i k h;cases h
 ·exact⟨az.nil _ _ _,rfl,by intro i f g h;simp[ry] at h,by intro i j g g' h;simp at h⟩
 ·exact⟨by simp[ry],by simp[ry,Dk.used],by simp[ry],by simp[ry];omega,by simp[ry],by simp[ry],by intro i k h;cases h⟩
 ·intro b;constructor
  ·exact λe=>.inl e
  ·rintro(e|⟨ad,q,_⟩|⟨g,l,_⟩)
   ·exact e
   ·cases q
   ·simp at l
theorem DB {F:Nat->Prop}{d:Nat}{s:Dk}{H:aa}{i k:Int}{K:Unit->aa->Prop}(h:cq F H d s)(hi:i<=9223372036854775807)
  (a:∀F' H',cq F' H' d (s.db i k)->Step F F' H H'->K () H'):Ko.sp (aE d) i k H K:=by
 have l:=h;obtain⟨fl,gs,cin,kp,g,f⟩:=h;refine Ko.of ?_;unfold Ko.vc;simp only[al];refine g.head.ld (c:=ay) (i:=8) (x:=s.down) rfl ?_;cases hd:s.down with
 |true=>
   refine aP rfl (a F H ?_ (.refl _ _));have:s.db i k=s:=by unfold Dk.db;rw[hd];rfl
   rw[this];exact l
 |false=>
   refine aC rfl ?_;have m:s.db i k={s with crash:=some (max i 0,k)}:=by unfold Dk.db;rw[hd];rfl
   refine g.head.st (i:=5) (by simp[de]) (by rfl) λH1 n m1 s1=>?_;refine n.st (i:=6) (by simp[de]) (by rfl) λv r2 m2 s2=>?_;refine r2.st (i:=7) (by simp[de]) (by rfl) λH' r' j s'=>?_;have e:(if (0:Int)>i then (0:Int) else i)=max i 0:=by split<;>omega
   rw[e] at r';have o:iq fl gs (max i 0) k H' d (s.db i k):=by
    rw[m];refine g.dq (s':={s with crash:=some (max i 0,k)}) r' ((m1.trans m2).trans j) rfl (by intro p r q;simp only[Pj,Pp] at q;exact q) ⟨g.wf.nodup,g.wf.used,g.wf.most,g.wf.quota,g.wf.files,λ_=>rfl,?_⟩;intro p r q;simp only[Pj,Pp] at q;obtain⟨rfl,rfl⟩:=q;omega
   obtain⟨F',t,u⟩:=o.out (fl:=fl) (gs:=gs) (F:=F) (H:=H) f (((m1.trans m2).trans j).mono λb _ e=>(f b).2 (.inl e)) (λb q=>.inl q);exact a F' H' t u
end Go.Proofs.YtmkbhnholcaghaaGreatDoor
