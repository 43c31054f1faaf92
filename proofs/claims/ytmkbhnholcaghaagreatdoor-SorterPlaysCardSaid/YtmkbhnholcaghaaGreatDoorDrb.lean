/-
 The document's disk: what it tells of itself; a change; files looked up and made.
-/
import Derived.Test.YtmkbhnholcaghaaGreatDoorDra
open List renaming getElem?_eq_some_iff->N7,getElem?_eq_getElem->N8
open Option.some renaming injEq->O4
open Prod.mk renaming injEq->O8
namespace Go.Proofs.YtmkbhnholcaghaaGreatDoor
open Go.MapKept
theorem aJ.n {H:aa}{fl:Sl}{gs:List (Sl×Sl)}{fs:List Fl}(h:aJ H fl gs fs):fl.n=fs.length:=by
 rw[h.arr.n (by decide),eZ _ _ h.len]
theorem aJ.LL {H:aa}{fl:Sl}{gs:List (Sl×Sl)}{fs:List Fl}(h:aJ H fl gs fs){i:Nat}{f:Fl}{g:Sl×Sl}(b:fs[i]?=some f)(e:gs[i]?=some g){K:(ByteArray×Sl×Sl)->Prop}(j:K (f.name,g.1,g.2)):
  ae fl.a λa=>(0<=(i:Int)/\(i:Int)<(fl.n:Int))/\c8 (bQ [aK,ak,ak]) 3 H (a.add ((i:Int).toNat*3)) K:=by
 have hi:=(N7.1 b).1;obtain⟨ad,d⟩:=bP.addr h.arr.rd (by decide) (by rw[eZ _ _ h.len];omega);rw[d];refine⟨⟨by omega,by rw[h.n];omega⟩,?_⟩;exact bP.c8 (E:=pN) (c:=bQ [aK,ak,ak]) (y:=(f.name,g.1,g.2)) h.arr.rd d (mu _ _ i f g b e) rfl (by simp[pN]) rfl j
theorem aJ.ld1 {H:aa}{fl:Sl}{gs:List (Sl×Sl)}{fs:List Fl}(h:aJ H fl gs fs){i j:Nat}{f:Fl}{g:Sl×Sl}(b:fs[i]?=some f)(e:gs[i]?=some g){c:eO}{y:c.α}(k:(pN.enc (f.name,g.1,g.2))[j]?=some (c.enc y)){K:c.α->Prop}(l:K y):
  ae fl.a λa=>(0<=(i:Int)/\(i:Int)<(fl.n:Int))/\ld c H ((a.add ((i:Int).toNat*3)).add j) K:=by
 have hi:=(N7.1 b).1;obtain⟨ad,d⟩:=bP.addr h.arr.rd (by decide) (by rw[eZ _ _ h.len];omega);rw[d];refine⟨⟨by omega,by rw[h.n];omega⟩,?_⟩;exact bP.ld (E:=pN) (c:=c) h.arr.rd d (mu _ _ i f g b e) k (by simp[pN]) l
theorem u6 {fl:Sl}{gs:List (Sl×Sl)}{d:Nat}{cs:Array Value}{s:Dk}{H:aa}{K:Int->aa->Prop}(hd:aj H d wP cs)(h:cs[0]?=some fl.v)(r:aJ H fl gs s.files)(hu:s.used<=2097152)(u:s.files.length<=4096)(o:s.aB<68719476736)(v:∀H',Mod (λ_=>False) H H'->K s.used H'):Ij.sp (aE d) H K:=by
 refine Ij.of ?_;unfold Ij.vc;simp only[al];have t:=r.n;refine ar s.files.length (λk x H1=>x=(((((s.files.take k).map λf=>f.aq.length).sum:Nat):Int),(k:Int))/\Mod (λ_=>False) H H1) ⟨rfl,.refl _ _⟩ ?_;rintro k _ H1 next hk ⟨rfl,m1⟩ e
 have h1:=hd.ext m1;have f1:aJ H1 fl gs s.files:=r.keep λb D hl=>m1.same b hl id;refine h1.ld (c:=ak) (i:=0) (x:=fl) h ?_;refine ah (λj=>?_) (λj=>?_)
 ·have g:k<s.files.length:=by rw[t] at j;simpa using j
  have a:s.files[k]?=some s.files[k]:=N8 g;obtain⟨f,m⟩:∃f,f=s.files[k]:=⟨_,rfl⟩;rw[<-m] at a;obtain⟨E,w,y,z⟩:=f1.BG a;refine h1.ld (c:=ak) (i:=0) (x:=fl) h ?_;refine f1.LL a w ?_;have A:=Dk.eQ a;have B:=Dk.j6 a;refine lu y z (by omega) (by omega) λl F C m2 _=>?_;have p:=C.n (by decide);have n:((s.files.take (k+1)).map λf=>f.aq.length).sum=((s.files.take k).map λf=>f.aq.length).sum+f.aq.length:=by
   rw[List.take_succ_eq_append_getElem g,<-m];simp
  have hle:((s.files.take (k+1)).map λf=>f.aq.length).sum<=s.used:=by
   unfold Dk.used
   conv=>rhs;rw[<-List.take_append_drop (k+1) s.files,List.map_append,List.sum_append]
   omega
  refine e g _ _ ⟨?_,m1.trans m2⟩;rw[aD k (by omega),n,p,wrap64 (by omega) (by omega)];simp
 ·have q:k=s.files.length:=by rw[t] at j;simp at j;omega
  rw[q,List.take_of_length_le (Nat.le_refl _)];exact v H1 m1
def lC (s:Dk)(n:ByteArray):Int:=match s.idx n with|some i=>(i:Int)|none=>-1
theorem kB {fl:Sl}{gs:List (Sl×Sl)}{d:Nat}{cs:Array Value}{s:Dk}{H:aa}{n:ByteArray}{K:Int->aa->Prop}(hd:aj H d wP cs)(m:cs[0]?=some fl.v)(r:aJ H fl gs s.files)(hw:s.files.length<=4096)
  (g:K (lC s n) H):AR.sp (aE d) n H K:=by
 refine AR.of ?_;unfold AR.vc;simp only[al];have v:=r.n;refine ar s.files.length (λk x H1=>x=(k:Int)/\H1=H/\∀j (l:j<s.files.length),j<k->(s.files[j].name.toList==n.toList)=false) ⟨rfl,rfl,λj _ h=>by omega⟩ ?_;rintro k _ H1 next hk ⟨rfl,rfl,a⟩ b
 refine hd.ld (c:=ak) (i:=0) (x:=fl) m ?_;refine ah (λo=>?_) (λo=>?_)
 ·have e:k<s.files.length:=by rw[v] at o;simpa using o
  have p:s.files[k]?=some s.files[k]:=N8 e;obtain⟨B,w,_⟩:=r.BG p;refine hd.ld (c:=ak) (i:=0) (x:=fl) m ?_;refine r.ld1 p w (j:=0) (c:=aK) (y:=s.files[k].name) rfl ?_;refine ah (λt=>?_) (λt=>?_)
  ·have:s.idx n=some k:=by
    unfold Dk.idx;rw[List.findIdx?_eq_some_iff_getElem];exact⟨e,t,λj l=>by simpa using a j (by omega) l⟩
   unfold lC at g;rw[this] at g;exact g
  ·refine b e _ _ ⟨aD k (by omega),rfl,λj l z=>?_⟩;rcases Nat.lt_or_ge j k with q|q
   ·exact a j l q
   ·have:j=k:=by omega
    subst this;exact t
 ·have A:k=s.files.length:=by rw[v] at o;simp at o;omega
  have:s.idx n=none:=by
   unfold Dk.idx;rw[List.findIdx?_eq_none_iff];intro f u;obtain⟨j,l,rfl⟩:=List.getElem_of_mem u;exact a j l (by omega)
  unfold lC at g;rw[this] at g;exact g
theorem CG {n:ByteArray}{H:aa}{K:Bool->aa->Prop}(a:K (named n) H):Jm.sp n H K:=by
 refine Jm.of ?_;unfold Jm.vc;have e:((decide ((n.size:Int)>=1))&&(decide ((n.size:Int)<=100)))=named n:=by
  unfold named;congr 1<;>(rw[decide_eq_decide];omega)
 rw[e];exact a
theorem il.dj {fl:Sl}{gs:List (Sl×Sl)}{cin kp a c:Int}{H H':aa}{d:Nat}{s s':Dk}(h:il fl gs cin kp H d s)(g:aj H' d wP (db fl s'.most s'.quota s'.ops s'.next s'.crash.isSome a c s'.down))
  (hm:Mod (λb=>b=d) H H') (i:s'.files=s.files) (j:ke s' a c) (f:s'.WF):il fl gs a c H' d s':=
 ⟨g,j,by rw[i];exact h.files.keep λb k hl=>hm.same b hl λe=>il.off h.head h.files (e▸k),f⟩
theorem kG {fl:Sl}{gs:List (Sl×Sl)}{cin kp:Int}{d:Nat}{s:Dk}{H:aa}{K:Int->aa->Prop}(h:il fl gs cin kp H d s)
  (w:∀a H',il fl gs a kp H' d s.change.1->Mod (λb=>b=d) H H'->H'.size=H.size->K s.change.2 H'):EL.sp (aE d) H K:=by
 refine EL.of ?_;unfold EL.vc;simp only[al];have n:=h.wf.change;have o:=s.bm;have f:∀(a:Int) (H':aa),aj H' d wP (db fl s.change.1.most s.change.1.quota s.change.1.ops s.change.1.next s.change.1.crash.isSome a kp s.change.1.down)->ke s.change.1 a kp->Mod (λb=>b=d) H H'->H'.size=H.size->K s.change.2 H':=
  λa H' y g hm hs=>w a H' (h.dj y hm o g n) hm hs
 have j:=h.head;have m:=h.crash;refine j.ld (c:=ay) (i:=5) (x:=s.crash.isSome) rfl ?_;cases g:s.crash with
 |none=>
   have p:s.crash.isSome=false:=by rw[g];rfl
   refine aC rfl ?_;refine j.ld (c:=ay) (i:=5) (x:=s.crash.isSome) rfl ?_;refine aC p ?_;refine j.ld (c:=ab .i64) (i:=3) (x:=s.ops) rfl ?_;refine j.st (i:=3) (by simp[db]) (by rfl) λH' r' r s'=>?_;have e:s.change=({s with ops:=fw (s.ops+1)},0):=by unfold Dk.change;rw[g]
   rw[e] at f;exact f cin H' r' (by intro i k q;rw[show ({s with ops:=fw (s.ops+1)}:Dk).crash=s.crash from rfl,g] at q;cases q) r s'
 |some z=>
   obtain⟨i,k⟩:=z;obtain⟨rfl,rfl⟩:=m i k g;have t:s.crash.isSome=true:=by rw[g];rfl
   refine aP rfl ?_;refine j.ld (c:=ab .i64) (i:=6) (x:=cin) rfl ?_;refine ah (λu=>?_) (λu=>?_)
   ·have l:cin=0:=by simpa using u
    have e:s.change=({s with down:=true},4):=by unfold Dk.change;rw[g];simp[l]
    rw[e] at f;refine j.st (i:=8) (by simp[db]) (by rfl) λH' r' r s'=>?_;exact f cin H' r' (by intro i k q;exact m i k q) r s'
   ·have l:cin≠0:=by simpa using u
    have e:s.change=({s with crash:=some (fw (cin - 1),kp),ops:=fw (s.ops+1)},0):=by unfold Dk.change;rw[g];simp[l]
    rw[e] at f;refine j.ld (c:=ay) (i:=5) (x:=s.crash.isSome) rfl ?_;refine aP t ?_;refine j.ld (c:=ab .i64) (i:=6) (x:=cin) rfl ?_;refine j.st (i:=6) (by simp[db]) (by rfl) λH1 v m1 s1=>?_;refine v.ld (c:=ab .i64) (i:=3) (x:=s.ops) rfl ?_;refine v.st (i:=3) (by simp[db]) (by rfl) λA r2 m2 s2=>?_;refine f (fw (cin - 1)) A ?_ (by intro i k q;simp only[O4,O8] at q;exact q) (m1.trans m2) (by omega);rw[g] at r2;exact r2
theorem IJ {q:Int}{H:aa}{K:Option Addr->aa->Prop}(m:q<=9223372036854775807)(a:∀F d H',cp F H' d (re q)->Mod (λ_=>False) H H'->(∀b,F b->H.size<=b)->K (aE d) H'):JP.sp q H K:=by
 refine JP.of ?_;unfold JP.vc;refine ax λc s2 r2 e2=>?_;refine a (λb=>b=H.size) _ c ⟨Sl.mk none 0 0,[],0,0,⟨?_,?_,?_,?_⟩,?_⟩ e2 (λb e=>by omega)
 ·have:((if (1048576:Int)<(if (0:Int)>q then (0:Int) else q) then (1048576:Int) else (if (0:Int)>q then (0:Int) else q)))=((re q).quota:Int):=by
   unfold re;simp only;split<;>split<;>omega
  rw[this] at r2;exact r2
 ·intro i k h;cases h
 ·exact⟨az.nil _ _ _,rfl,by intro i f g h;simp[re] at h,by intro i j g g' h;simp at h⟩
 ·exact⟨by simp[re],by simp[re,Dk.used],by simp[re],by simp[re];omega,by simp[re],by simp[re],by intro i k h;cases h⟩
 ·intro b;constructor
  ·exact λe=>.inl e
  ·rintro(e|⟨ad,q,_⟩|⟨g,l,_⟩)
   ·exact e
   ·cases q
   ·simp at l
theorem Dn {F:Nat->Prop}{d:Nat}{s:Dk}{H:aa}{i k:Int}{K:Unit->aa->Prop}(h:cp F H d s)(hi:i<=9223372036854775807)
  (a:∀F' H',cp F' H' d (s.da i k)->Step F F' H H'->K () H'):Ki.sp (aE d) i k H K:=by
 have l:=h;obtain⟨fl,gs,cin,kp,g,f⟩:=h;refine Ki.of ?_;unfold Ki.vc;simp only[al];refine g.head.ld (c:=ay) (i:=8) (x:=s.down) rfl ?_;cases hd:s.down with
 |true=>
   refine aP rfl (a F H ?_ (.refl _ _));have:s.da i k=s:=by unfold Dk.da;rw[hd];rfl
   rw[this];exact l
 |false=>
   refine aC rfl ?_;have m:s.da i k={s with crash:=some (max i 0,k)}:=by unfold Dk.da;rw[hd];rfl
   refine g.head.st (i:=5) (by simp[db]) (by rfl) λH1 n m1 s1=>?_;refine n.st (i:=6) (by simp[db]) (by rfl) λv r2 m2 s2=>?_;refine r2.st (i:=7) (by simp[db]) (by rfl) λH' r' j s'=>?_;have e:(if (0:Int)>i then (0:Int) else i)=max i 0:=by split<;>omega
   rw[e] at r';have o:il fl gs (max i 0) k H' d (s.da i k):=by
    rw[m];refine g.dj (s':={s with crash:=some (max i 0,k)}) r' ((m1.trans m2).trans j) rfl (by intro p r q;simp only[O4,O8] at q;exact q) ⟨g.wf.nodup,g.wf.used,g.wf.most,g.wf.quota,g.wf.files,λ_=>rfl,?_⟩;intro p r q;simp only[O4,O8] at q;obtain⟨rfl,rfl⟩:=q;omega
   obtain⟨F',t,u⟩:=o.out (fl:=fl) (gs:=gs) (F:=F) (H:=H) f (((m1.trans m2).trans j).mono λb _ e=>(f b).2 (.inl e)) (λb q=>.inl q);exact a F' H' t u
end Go.Proofs.YtmkbhnholcaghaaGreatDoor
