/-
 The document's disk: Remove, Rename, Len, Read, Sync, Write.
-/
import Derived.Test.YtmkbhnholcaghaaGreatDoorDrc
open Bool renaming or_eq_true->Pu,or_eq_false_iff->PW,false_eq_true->PZ
open Go.Proofs.Tryz renaming prog->N5
open List renaming getElem?_eq_some_iff->N7,mem_of_getElem?->N9
namespace Go.Proofs.YtmkbhnholcaghaaGreatDoor
open Go.MapKept
theorem zp {H:aa}{fl:Sl}{l:List (ByteArray×Sl×Sl)}(h:az pN ub H fl l){i j:Nat}{x y:ByteArray×Sl×Sl}{v:Value}(hi:l[i]?=some x)(c:j<3)(d:jl v=true)(e:pN.enc y=(pN.enc x).set j v){K:aa->Prop}
  (f:∀H',az pN ub H' fl (l.set i y)->Mod (ag fl) H H'->H'.size=H.size->K H'):ae fl.a λa=>(0<=(i:Int)/\(i:Int)<(fl.n:Int))/\st H ((a.add ((i:Int).toNat*3)).add j) v K:=by
 have g:=(N7.1 hi).1;have k:=h.n (by decide);obtain⟨ad,b⟩:=bP.addr h.rd (by decide) (by omega);rw[b];refine⟨⟨by omega,by omega⟩,?_⟩;exact az.st (E:=pN) h b hi c d e (by simp[pN]) f
theorem aJ.gr {H:aa}{fl:Sl}{gs:List (Sl×Sl)}{fs:List Fl}(h:aJ H fl gs fs){i:Nat}{g:Sl×Sl}(d:gs[i]?=some g):∀b,(ag g.1 b\/ag g.2 b)->¬ag fl b:=by
 intro b a c;obtain⟨_,_,e,f⟩:=h.xW d;rcases a with a|a
 ·exact(e.apart h.arr (by decide)) b a c
 ·exact(f.apart h.arr (by decide)) b a c
theorem AD {F:Nat->Prop}{d:Nat}{s:Dk}{H:aa}{n:ByteArray}{K:Int->aa->Prop}(h:cp F H d s)
  (a:∀F' H',cp F' H' d (s.remove n).1->Step F F' H H'->K (s.remove n).2 H'):Ka.sp (aE d) n H K:=by
 have z:=h;obtain⟨fl,gs,cin,kp,g,l⟩:=h;refine Ka.of ?_;unfold Ka.vc;simp only[al];have stay:∀e:Int,s.remove n=(s,e)->K e H:=by
  intro e he;have:=a F H (by rw[he];exact z) (.refl _ _);rw[he] at this;exact this
 have m:=g.wf.files;refine g.head.ld (c:=ay) (i:=8) (x:=s.down) rfl ?_;refine ah (λhd=>stay 4 (by unfold Dk.remove;rw[hd];rfl)) (λhd=>?_);refine kB g.head rfl g.files m ?_;rw[lI];cases hi:s.idx n with
 |none=>exact stay 11 (by unfold Dk.remove;rw[hd,hi];rfl)
 |some i=>
   refine aC rfl ?_;have A:s.remove n=s.step λt=>t.drop n:=by unfold Dk.remove;rw[hd,hi];rfl
   rw[A] at a;unfold Dk.step at a;refine kG g λy B g3 m3 I=>?_;have o:=s.bm;refine ah (λp=>?_) (λp=>?_)
   ·have j:s.change.2=0:=by simpa using p
    rw[if_pos j] at a;rw[j];have k:s.change.1.idx n=some i:=by unfold Dk.idx;rw[o];exact hi
    refine kB g3.head rfl g3.files (by rw[o];exact m) ?_;have C:lC s.change.1 n=(i:Int):=by unfold lC;rw[k]
    rw[C];obtain⟨f,D,_⟩:=Dk.cj k;refine DW g3 (N7.1 D).1 λfl' E g4 m4 f4=>?_;have r:s.change.1.drop n={s.change.1 with files:=s.change.1.files.eraseIdx i}:=by unfold Dk.drop;rw[k]
    dsimp only at a;rw[r] at a;obtain⟨F',u,v⟩:=g4.out (fl:=fl) (gs:=gs) (F:=F) (H:=H) l ((m3.mono λb _ e=>(l b).2 (.inl e)).trans (m4.mono λb _ e=>(l b).2 (.inl e))) (by
     rintro b (q|⟨G,w,q⟩)
     ·have:=f4 b q;right;omega
     ·exact .inl (.inr ⟨G,List.mem_of_mem_eraseIdx w,q⟩))
    exact a F' E u v
   ·have j:s.change.2≠0:=by simpa using p
    rw[if_neg j] at a;obtain⟨F',u,v⟩:=g3.out (fl:=fl) (gs:=gs) (F:=F) (H:=H) l (m3.mono λb _ e=>(l b).2 (.inl e)) (λb q=>.inl q);exact a F' B u v
theorem mZ {F:Nat->Prop}{d:Nat}{s:Dk}{H:aa}{n:ByteArray}{K:(Int×Int)->aa->Prop}(h:cp F H d s)(j:s.aB<68719476736)(a:∀H',Mod (λ_=>False) H H'->K ((s.len n).1,(s.len n).2) H'):C2.sp (aE d) n H K:=by
 obtain⟨fl,gs,cin,kp,g,_⟩:=h;refine C2.of ?_;unfold C2.vc;simp only[al];refine kB g.head rfl g.files g.wf.files ?_;refine g.head.ld (c:=ay) (i:=8) (x:=s.down) rfl ?_;refine ah (λhd=>?_) (λhd=>?_)
 ·have e:s.len n=(0,4):=by unfold Dk.len Dk.open;rw[hd];rfl
  rw[e] at a;exact a H (.refl _ _)
 ·rw[lI];cases hi:s.idx n with
  |none=>
    have e:s.len n=(0,11):=by unfold Dk.len Dk.open;rw[hd,hi];rfl
    rw[e] at a;exact a H (.refl _ _)
  |some i=>
    refine aC rfl ?_;obtain⟨f,b,_⟩:=Dk.cj hi;obtain⟨v,k,m,o⟩:=g.files.BG b;have p:lC s n=(i:Int):=by unfold lC;rw[hi]
    rw[p];refine g.head.ld (c:=ak) (i:=0) (x:=fl) rfl ?_;refine g.files.LL b k ?_;have q:=Dk.eQ b;have r:=Dk.j6 b;have w:=g.wf.used;have y:=g.wf.most;have z:=g.wf.quota;refine lu m o (by omega) (by omega) λl t u m2 _=>?_;have e:s.len n=(f.aq.length,0):=by unfold Dk.len Dk.open;rw[hd,hi];simp[Dk.du b]
    rw[e] at a;rw[u.n (by decide)];exact a t m2
theorem l9 {b:List UInt8}{H:aa}{K:Sl->aa->Prop}(d:∀s' H',bL H' s' b->Mod (λ_=>False) H H'->(∀q,ag s' q->H.size<=q)->s'.n<=s'.c->K s' H'):
  ba ak N5 (convert dI dQ (.string (cD b))) H K:=by
 intro w hw;subst hw;have e:=run_bytes_of_string (P:=N5) w dI dQ fx (cD b) (by kernel_rfl) (by kernel_rfl) (by kernel_rfl);have a:(cD b).size=b.length:=by simp[cD,ByteArray.size]
 refine⟨_,_,e,⟨⟨some ⟨w.heap.size,0,none⟩,(cD b).size,grownCap w (cD b).size 0 fx⟩,rfl,d _ _ ⟨by simp[eH,a],?_⟩ (Mod.push _ _ _) ?_ (grownCap_ge _ _ _ _)⟩,(.of_le rfl (Nat.le_succ _))⟩
 ·intro i v c;rw[gv] at c;refine⟨_,rfl,?_⟩;rw[bk];have hi:i<b.length:=by have:=(N7.1 c).1;simpa[fZ] using this
  have f:(bytesRow (cD b) (grownCap w (cD b).size 0 fx))[i]?=some v:=by
   unfold bytesRow;rw[Array.getElem?_append_left (by simp[cD];exact hi)];rw[<-c];simp[cD,fZ]
  exact cq (t:=fx) (fz:=((bytesRow (cD b) (grownCap w (cD b).size 0 fx)).size,(bytesRow (cD b) (grownCap w (cD b).size 0 fx)).size+1)) (by show (w.heap.push _)[w.heap.size]?=_;simp) f
 ·rintro q ⟨ad,g,e2⟩;cases g;have:w.heap.size=q:=e2;omega
theorem AE {b:List UInt8}{H:aa}{K:Sl->aa->Prop}(a:∀s' H',bL H' s' b->Mod (λ_=>False) H H'->(∀q,ag s' q->H.size<=q)->K s' H'):
  ba ak N5 (convert dI dQ (.string (cD b))) H K:=l9 λs' H' h1 c d _=>a s' H' h1 c d
theorem bL.nil (H:aa):bL H (Sl.mk none 0 0) []:=⟨rfl,Reads.nil _ _⟩
theorem uw {F:Nat->Prop}{d:Nat}{s:Dk}{H:aa}{n:ByteArray}{page:Int}{K:(Sl×Int)->aa->Prop}(h:cp F H d s)(u:s.aB<68719476736)
  (v:∀r H',bL H' r (s.read n page).1->Mod (λ_=>False) H H'->(∀b,ag r b->H.size<=b)->r.n<=r.c->K (r,(s.read n page).2) H'):CB.sp (aE d) n page H K:=by
 obtain⟨fl,gs,cin,kp,g,_⟩:=h;refine CB.of ?_;unfold CB.vc;simp only[al];have err:∀(e:Int) (A:aa),Mod (λ_=>False) H A->s.read n page=([],e)->K (Sl.mk none 0 0,e) A:=by
  intro e A D he;have:=v (Sl.mk none 0 0) A (by rw[he];exact bL.nil _) D (by rintro b ⟨ad,q,_⟩;cases q) (Nat.le_refl _);rw[he] at this;exact this
 refine kB g.head rfl g.files g.wf.files ?_;refine g.head.ld (c:=ay) (i:=8) (x:=s.down) rfl ?_;refine ah (λhd=>?_) (λhd=>?_)
 ·exact err 4 H (.refl _ _) (by unfold Dk.read Dk.open;rw[hd];rfl)
 rw[lI];cases hi:s.idx n with
 |none=>exact err 11 H (.refl _ _) (by unfold Dk.read Dk.open;rw[hd,hi];rfl)
 |some i=>
   refine aC rfl ?_;obtain⟨f,m,_⟩:=Dk.cj hi;obtain⟨U,E,G,I⟩:=g.files.BG m;have a:s.file i=f:=Dk.du m;have B:s.read n page=if page<0 then ([],(12:Int)) else match f.aq[page.toNat]? with|some p=>(p.1,(0:Int))|none=>([],(12:Int)):=by
    unfold Dk.read Dk.open;rw[hd,hi];simp[a];rfl
   have J:lC s n=(i:Int):=by unfold lC;rw[hi]
   rw[J];refine g.head.ld (c:=ak) (i:=0) (x:=fl) rfl ?_;refine g.files.LL m E ?_;have L:=Dk.eQ m;have M:=Dk.j6 m;have V:=g.wf.used;have W:=g.wf.most;have X:=g.wf.quota;refine lu G I (by omega) (by omega) λl N w m2 f2=>?_;have O:=w.n (by decide);refine ah (λj=>?_) (λj=>?_)
   ·refine err 12 N m2 ?_;simp only[Pu,decide_eq_true_eq] at j;rw[B];rcases j with j|j
    ·rw[if_pos j]
    ·by_cases o:page<0
     ·rw[if_pos o]
     ·rw[if_neg o,List.getElem?_eq_none (by omega)]
   ·simp only[PW,decide_eq_false_iff_not] at j;obtain⟨pg,rfl⟩:∃k:Nat,page=k:=⟨page.toNat,by omega⟩;have z:pg<f.aq.length:=by omega
    obtain⟨ad,C⟩:=bP.addr w.rd (by decide) (by omega);rw[C];refine⟨⟨by omega,by omega⟩,?_⟩;have t:f.aq[pg]?=some f.aq[pg]:=List.getElem?_eq_getElem z;simp only[Int.toNat_natCast];refine az.one (c:=aK) (y:=cD f.aq[pg].1) w t rfl rfl C ?_;refine l9 λr P Q m3 f3 R=>?_;have S:s.read n pg=(f.aq[pg].1,0):=by
     rw[B,if_neg (by omega)];simp[t]
    rw[S] at v;exact v r P Q (m2.trans m3) (λb T=>by have:=f3 b T;have:=m2.size;omega) R
theorem FR {F:Nat->Prop}{d:Nat}{s:Dk}{H:aa}{n:ByteArray}{page:Int}{K:(Sl×Int)->aa->Prop}(h:cp F H d s)(a:s.aB<68719476736)
  (c:∀r H',bL H' r (s.read n page).1->Mod (λ_=>False) H H'->(∀b,ag r b->H.size<=b)->K (r,(s.read n page).2) H'):CB.sp (aE d) n page H K:=
 uw h a λr H' h1 e f _=>c r H' h1 e f
theorem FT {F:Nat->Prop}{d:Nat}{s:Dk}{H:aa}{n:ByteArray}{K:Int->aa->Prop}(h:cp F H d s)(E:s.aB<68719476736)
  (u:∀F' H',cp F' H' d (s.sync n).1->Step F F' H H'->K (s.sync n).2 H'):Jb.sp (aE d) n H K:=by
 have U:=h;obtain⟨fl,gs,cin,kp,g,w⟩:=h;refine Jb.of ?_;unfold Jb.vc;simp only[al];have stay:∀e:Int,s.sync n=(s,e)->K e H:=by
  intro e he;have:=u F H (by rw[he];exact U) (.refl _ _);rw[he] at this;exact this
 refine kB g.head rfl g.files g.wf.files ?_;refine g.head.ld (c:=ay) (i:=8) (x:=s.down) rfl ?_;refine ah (λhd=>stay 4 (by unfold Dk.sync;rw[hd];rfl)) (λhd=>?_);rw[lI];cases hi:s.idx n with
 |none=>exact stay 11 (by unfold Dk.sync;rw[hd,hi];rfl)
 |some i=>
   refine aC rfl ?_;have V:s.sync n=s.step λt=>t.GS i λf=>{f with synced:=f.aq,log:=[]}:=by unfold Dk.sync;rw[hd,hi];rfl
   rw[V] at u;unfold Dk.step at u;refine kG g λo G g3 m3 s3=>?_;have I:=s.bm;obtain⟨k1,k2,k3,k4⟩:=s.lX;obtain⟨f,J,_⟩:=Dk.cj hi;have a:s.change.1.files[i]?=some f:=by rw[I];exact J
   refine ah (λL=>?_) (λL=>?_)
   ·have m:s.change.2=0:=by simpa using L
    rw[if_pos m] at u;rw[m];generalize s.change.1=t at*;obtain⟨M,D,N,O⟩:=g3.files.BG a;have W:lC s n=(i:Int):=by unfold lC;rw[hi]
    rw[W];refine⟨λA=>aj A d wP (db fl t.most t.quota t.ops t.next t.crash.isSome o kp t.down),g3.head,?_⟩;refine⟨fl,λA X=>by rw[bk];exact X.cell rfl,?_⟩;refine g3.head.ld (c:=ak) (i:=0) (x:=fl) rfl ?_;refine g3.files.LL a D ?_;have Y:=Dk.eQ J;have Z:=Dk.j6 J;have w1:=g.wf.used;have w2:=g.wf.most;have w3:=g.wf.quota;refine lu N O (by omega) (by omega) λl H4 S m4 f4=>⟨g3.head.ext m4,?_⟩;have a4:az pN ub H4 fl (ql t.files gs):=g3.files.arr.ext m4;have p:=mu _ _ i f M a D;refine zp a4 p (j:=1) (v:=l.v) (by omega) rfl (y:=(f.name,l,M.2)) rfl λH5 a5 m5 s5=>?_;have r:=il.off g3.head g3.files;have d5:=(g3.head.ext m4).mod m5 (λk=>r (.inl k));refine d5.ld (c:=ak) (i:=0) (x:=fl) rfl ?_;have P:=(N7.1 p).1;refine zp a5 (i:=i) (j:=2) (x:=(f.name,l,M.2)) (v:=.slice none 0 0) (by simp[P]) (by omega) rfl (y:=(f.name,l,Sl.mk none 0 0)) rfl λz T m6 s6=>?_;rw[List.set_set] at T;have z4:=m4.size;have B:Mod (ag fl) G z:=(((Ext.mod m4).trans m5).trans m6);have d6:=d5.mod m6 (λk=>r (.inl k));have C:∀b,ag l b->¬ag fl b:=S.apart a4 (by decide);have fB:=g3.files.set (H':=z) a D (f':={f with synced:=f.aq,log:=[]}) (g':=(l,Sl.mk none 0 0)) T (S.keep λb k hl=>(m6.same b (by omega) (C b k)).trans (m5.same b hl (C b k))) (az.nil _ _ _)
     (λj gj _ Q b k hl=>B.same b hl (g3.files.gr Q b k)) (by rintro b ⟨ad,q,_⟩;cases q)
    have hu:=Dk.jc (s:=t) (g:=λf=>{f with synced:=f.aq,log:=[]}) a;have R:(t.GS i λf=>{f with synced:=f.aq,log:=[]}).used=t.used:=by
     have e:({f with synced:=f.aq,log:=[]}:Fl).aq.length=f.aq.length:=rfl;omega
    have gG:il fl (gs.set i (l,Sl.mk none 0 0)) o kp z d (t.GS i λf=>{f with synced:=f.aq,log:=[]}):=by
     refine⟨d6,g3.crash,?_,g3.wf.modify (g:=λf=>{f with synced:=f.aq,log:=[]}) a rfl rfl (by rw[R];exact g3.wf.used) g3.wf.most rfl rfl rfl⟩;show aJ z fl _ (t.files.modify i λf=>{f with synced:=f.aq,log:=[]});rw[aZ a];exact fB
    obtain⟨F',r1,r2⟩:=gG.out (fl:=fl) (gs:=gs) (F:=F) (H:=H) w ((m3.mono λb _ e=>(w b).2 (.inl e)).trans (B.mono λb _ e=>(w b).2 (.inr (.inl e)))) (λb k=>(Bu (H:=G) D (λb k=>.inr (f4 b k)) (by rintro b ⟨ad,q,_⟩;cases q) b k).imp id (λq=>by omega));exact u F' z r1 r2
   ·have m:s.change.2≠0:=by simpa using L
    rw[if_neg m] at u;obtain⟨F',N,O⟩:=g3.out (fl:=fl) (gs:=gs) (F:=F) (H:=H) w (m3.mono λb _ e=>(w b).2 (.inl e)) (λb q=>.inl q);exact u F' G N O
set_option maxHeartbeats 1000000 in
theorem uC {F:Nat->Prop}{d:Nat}{s:Dk}{H:aa}{n:ByteArray}{page:Int}{p3:Sl}{b:List UInt8}{K:Int->aa->Prop}(h:cp F H d s)(a:bL H p3 b)(a1:∀ad,p3.a=some ad->¬F ad.block)(bx:s.aB+1<68719476736)
  (P:∀F' H',cp F' H' d (s.write n page b).1->Step F F' H H'->K (s.write n page b).2 H'):GO.sp (aE d) n page p3 H K:=by
 have h0:=h;have b2:=h.lt;obtain⟨fl,gs,cin,kp,g,Q⟩:=h;refine GO.of ?_;unfold GO.vc;simp only[al];have stay:∀(e:Int) (A:aa),Mod (λ_=>False) H A->s.write n page b=(s,e)->K e A:=by
  intro e A z he;have:=P F A (by rw[he];exact h0.keep λb a hl=>z.same b hl id) ⟨Ext.mod z,λb a=>.inl a⟩;rw[he] at this;exact this
 have b3:=a.n;refine kB g.head rfl g.files g.wf.files ?_;refine g.head.ld (c:=ay) (i:=8) (x:=s.down) rfl ?_;refine ah (λhd=>stay 4 H (.refl _ _) (by unfold Dk.write;rw[hd];rfl)) (λhd=>?_);refine ah (λT=>stay 2 H (.refl _ _) ?_) (λT=>?_)
 ·have:b.length≠512:=by simp at T;omega
  unfold Dk.write;rw[hd];simp[this]
 have m:b.length=512:=by simp at T;omega
 rw[lI];cases hi:s.idx n with
 |none=>
   refine aP rfl (stay 11 H (.refl _ _) ?_);unfold Dk.write;rw[hd];simp[m,hi]
 |some i=>
   refine aC rfl ?_;obtain⟨f,hf,b4⟩:=Dk.cj hi;obtain⟨o,M,q1,q2⟩:=g.files.BG hf;have w:s.file i=f:=Dk.du hf;have hx:lC s n=(i:Int):=by unfold lC;rw[hi]
   simp only[hx];have b5:=Dk.eQ hf;have b6:=Dk.j6 hf;have w1:=g.wf.used;have w2:=g.wf.most;have w3:=g.wf.quota;have bA:page<0\/page>f.aq.length->s.write n page b=(s,12):=by
    intro U;unfold Dk.write;rw[hd];simp only[PZ,if_false,m,dif_pos,hi,w];rw[if_pos U]
   have e5:¬(page<0\/page>f.aq.length)->page=f.aq.length->s.used>=s.quota->s.write n page b=(s,5):=by
    intro U h1 h2;unfold Dk.write;rw[hd];simp only[PZ,if_false,m,dif_pos,hi,w];rw[if_neg U,if_pos ⟨h1,h2⟩]
   refine g.head.ld (c:=ak) (i:=0) (x:=fl) rfl ?_;refine g.files.LL hf M ?_;refine lu q1 q2 (by omega) (by omega) λl H2 o2 m2 f2=>?_;have b7:=o2.n (by decide);refine⟨λ_ A=>Mod (λ_=>False) H A/\¬(page<0\/page>f.aq.length)/\¬(page=f.aq.length/\s.used>=s.quota),?_,?_⟩
   ·refine ah (λU=>stay 12 H2 m2 (bA ?_)) (λU=>?_)
    ·simp only[Pu,decide_eq_true_eq] at U;omega
    have D:¬(page<0\/page>f.aq.length):=by simp only[PW,decide_eq_false_iff_not] at U;omega
    refine⟨λA=>aj A d wP (db fl s.most s.quota s.ops s.next s.crash.isSome cin kp s.down),g.head.ext m2,?_⟩;refine ah (λhe=>?_) (λhe=>⟨m2,D,λC=>by simp at he;omega⟩);have bB:page=f.aq.length:=by simp at he;omega
    have f22:aJ H2 fl gs s.files:=g.files.keep λb a hl=>m2.same b hl id;refine u6 (g.head.ext m2) rfl f22 (by omega) g.wf.files (by omega) λV m4=>⟨(g.head.ext m2).ext m4,?_⟩;refine⟨(s.quota:Int),λA z=>by rw[bk];exact z.cell rfl,?_⟩;refine ah (λhq=>stay 5 V (m2.trans m4) (e5 D bB (by simp at hq;omega))) (λhq=>⟨m2.trans m4,D,λC=>by simp at hq;omega⟩)
   ·rintro _ H0 ⟨m0,D,bC⟩;obtain⟨pg,rfl⟩:∃k:Nat,page=k:=⟨page.toNat,by omega⟩;have b9:pg<=f.aq.length:=by omega
    obtain⟨wr,a6⟩:∃wr:Dk->Wr,wr=λt=>⟨t.next,pg,⟨b,m⟩⟩:=⟨_,rfl⟩;have hr:s.write n pg b=s.step λt=>(t.fS i (wr t)).iY (max t.most (t.fS i (wr t)).used):=by
     unfold Dk.write;rw[hd];simp only[PZ,if_false,m,dif_pos,hi,w];rw[if_neg D,if_neg bC,a6];rfl
    rw[hr] at P;unfold Dk.step at P;have g0:il fl gs cin kp H0 d s:=⟨g.head.ext m0,g.crash,g.files.keep λb a hl=>m0.same b hl id,g.wf⟩;refine kG g0 λp V g4 m4 s4=>?_;have W:Mod F H V:=(Ext.mod m0).trans (m4.mono λb _ e=>(Q b).2 (.inl e));have z0:=m0.size;refine ah (λhz=>?_) (λhz=>?_)
    ·have X:s.change.2≠0:=by simpa using hz
     rw[if_neg X] at P;obtain⟨F',r1,r2⟩:=g4.out (fl:=fl) (gs:=gs) (F:=F) (H:=H) Q W (λb q=>.inl q);exact P F' V r1 r2
    have X:s.change.2=0:=by simpa using hz
    rw[if_pos X] at P;dsimp only at P;obtain⟨k1,k2,k3,k4⟩:=s.lX;have bb:=s.bm;generalize ht:s.change.1=t at*;have r:t.files[i]?=some f:=by rw[bb];exact hf
    obtain⟨bd,Y⟩:=g4.files.ent i f o r M;have u:=il.off g4.head g4.files;have Z:bL V p3 b:=a.keep λad L hl=>W.same _ hl (a1 ad L);have N:=N9 M;have G:=mu _ _ i f o r M;have bD:∀ad,p3.a=some ad->¬ag o.2 ad.block:=λad L C=>a1 ad L ((Q _).2 (.inr (.inr ⟨o,N,.inr C⟩)));have B:∀b,ag o.2 b->¬ag fl b:=λb a=>g4.files.gr M b (.inr a);have R:¬ag o.2 d:=λC=>u (.inr ⟨o,N,.inr C⟩);refine⟨λA=>aj A d wP (db fl t.most t.quota t.ops t.next t.crash.isSome p kp t.down)/\az pN ub A fl (ql t.files gs)/\bL A p3 b,⟨g4.head,g4.files.arr,Z⟩,?_⟩;refine⟨fl,λA z=>by rw[bk];exact z.1.cell rfl,?_⟩;refine⟨fl,λA z=>by rw[bk];exact z.1.cell rfl,?_⟩;obtain⟨ad,L⟩:=bP.addr g4.files.arr.rd (by decide) (by have:=(N7.1 G).1;omega);have cb:=g4.files.n;have ck:=(N7.1 r).1;rw[L];refine⟨⟨by omega,by omega⟩,?_⟩;refine⟨o.2,λA z=>?_,?_⟩
    ·obtain⟨cm,e1,hc⟩:=bP.cell z.2.1.rd G (j:=2) (v:=o.2.v) rfl;rw[L] at e1;cases e1;rw[add_add];exact hc
    refine g4.head.ld (c:=ab .i64) (i:=4) (x:=t.next) rfl ?_;refine⟨cD b,λA z=>z.2.2.Jr,?_⟩;have bl:wr t=⟨t.next,pg,⟨b,m⟩⟩:=by rw[a6]
    refine az.AW (E:=yB) Mf (x:=wr t) Y (by rw[bl];rfl) (by omega) (by omega) _ (λH6 s6 m6=>⟨g4.head.ext m6,g4.files.arr.ext m6,Z.keep λad L hl=>m6.same _ hl id⟩) λS H7 o7 g7 _=>?_;refine⟨⟨g4.head.mod g7.1 R,g4.files.arr.keep λb a hl=>g7.1.same b hl λC=>B b C a,Z.keep λad L hl=>g7.1.same _ hl (bD ad L)⟩,?_⟩;rw[<-L];have a7:az pN ub H7 fl (ql t.files gs):=g4.files.arr.keep λb a hl=>g7.1.same b hl λC=>B b C a;refine zp a7 G (j:=2) (v:=S.v) (by omega) rfl (y:=(f.name,o.1,S)) rfl λH8 a8 m8 s8=>?_;have d7:=g4.head.mod g7.1 R;have d8:aj H8 d wP (db fl t.most t.quota t.ops t.next t.crash.isSome p kp t.down):=d7.mod m8 (λa=>u (.inl a));refine d8.ld (c:=ab .i64) (i:=4) (x:=t.next) rfl ?_;refine d8.st (i:=4) (by simp[db]) (by rfl) λH9 d9 m9 s9=>?_;have I:aj H9 d wP (db fl t.most t.quota t.ops (fw (t.next+1)) t.crash.isSome p kp t.down):=d9;have z7:=g7.1.size;have bn:∀b,ag S b->¬ag fl b:=o7.apart a7 (by decide);have bM:∀b,ag S b->b≠d:=λb a e=>by
     obtain⟨c,q⟩:=o7.obj b a;rw[e] at q;exact absurd (aF d7 q) (by decide)
    have fB:=g4.files.set (H':=H9) r M (f':={f with log:=f.log++[wr t]}) (g':=(o.1,S)) (a8.keep λb a hl=>m9.same b hl λe=>u (.inl (e▸a)))
     (bd.keep λb a hl=>(m9.same b (by omega) λe=>u (.inr ⟨o,N,.inl (e▸a)⟩)).trans ((m8.same b (by omega) (g4.files.gr M b (.inl a))).trans (g7.1.same b hl ((bd.apart Y (by decide)) b a))))
     (o7.keep λb a hl=>(m9.same b (by omega) (bM b a)).trans (m8.same b hl (bn b a)))
     (λj gj hj O b a hl=>(m9.same b (by omega) λe=>u (.inr ⟨gj,N9 O,e▸a⟩)).trans ((m8.same b (by omega) (g4.files.gr O b a)).trans (g7.1.same b hl λC=>by
      rcases a with a|a
      ·obtain⟨_,_,t1,_⟩:=g4.files.xW O;exact(t1.apart Y (by decide)) b a C
      ·exact g4.files.apart j i gj o O M hj b a C)))
     (λb a=>g7.2 b a)
    have J:(t.fS i (wr t)).used=if pg=f.aq.length then t.used+1 else t.used:=by
     have h1:=Dk.jc (s:=t) (g:=λf=>{f with log:=f.log++[wr t]}) r;have h2:({f with log:=f.log++[wr t]}:Fl).aq.length=max f.aq.length (pg+1):=by
      have e:({f with log:=f.log++[wr t]}:Fl).aq=dN f.aq (wr t):=by simp[Fl.aq]
      rw[e,c9,bl]
     have h3:(t.fS i (wr t)).used=(t.GS i (λf=>{f with log:=f.log++[wr t]})).used:=rfl;rw[h3];split<;>omega
    have af:aJ H9 fl (gs.set i (o.1,S)) (t.fS i (wr t)).files:=by
     show aJ H9 fl _ (t.files.modify i λf=>{f with log:=f.log++[wr t]});rw[aZ r];exact fB
    have bO:(t.fS i (wr t)).aB<68719476736:=by
     have h1:=fg (λf:Fl=>f.log.length) (λf=>{f with log:=f.log++[wr t]}) t.files i f r;have h2:(t.fS i (wr t)).aB=((t.files.modify i λf=>{f with log:=f.log++[wr t]}).map λf=>f.log.length).sum:=rfl;have h3:(t.files.map λf=>f.log.length).sum=s.aB:=by rw[bb];rfl
     simp only[List.length_append,List.length_cons,List.length_nil] at h1;rw[h2];omega
    refine⟨λA=>aj A d wP (db fl t.most t.quota t.ops (fw (t.next+1)) t.crash.isSome p kp t.down),I,?_⟩;refine⟨(t.most:Int),λA z=>by rw[bk];exact z.cell rfl,?_⟩;have b0:(t.fS i (wr t)).files.length<=4096:=by
     show (t.files.modify i _).length<=4096;simp;exact g4.wf.files
    refine u6 (s:=t.fS i (wr t)) I rfl af (by rw[J];split<;>omega) b0 bO λcx m10=>⟨I.ext m10,?_⟩;refine(I.ext m10).st (i:=1) (by simp[db]) (by rfl) λan d11 m11 cy=>?_;have em:(if (((t.fS i (wr t)).used:Nat):Int)>(t.most:Int) then (((t.fS i (wr t)).used:Nat):Int) else (t.most:Int))=((max t.most (t.fS i (wr t)).used:Nat):Int):=by split<;>omega
    rw[em] at d11;have cz:=m10.size;have bs:=il.off I af;have gG:il fl (gs.set i (o.1,S)) p kp an d ((t.fS i (wr t)).iY (max t.most (t.fS i (wr t)).used)):=by
     refine⟨d11,g4.crash,?_,?_⟩
     ·exact af.keep λb a hl=>(m11.same b (by omega) λe=>bs (e▸a)).trans (m10.same b hl id)
     ·refine g4.wf.modify (g:=λf=>{f with log:=f.log++[wr t]}) r rfl rfl (Nat.le_max_right _ _) ?_ rfl rfl rfl;show max t.most (t.fS i (wr t)).used<=t.quota;rw[J];split<;>omega
    have b1:Mod F H an:=by
     have t1:Mod F V H9:=((g7.1.mono λb _ e=>(Q b).2 (.inr (.inr ⟨o,N,.inr e⟩))).trans (m8.mono λb _ e=>(Q b).2 (.inr (.inl e)))).trans (m9.mono λb _ e=>(Q b).2 (.inl e));exact((W.trans t1).trans (Ext.mod m10)).trans (m11.mono λb _ e=>(Q b).2 (.inl e))
    obtain⟨F',r1,r2⟩:=gG.out (fl:=fl) (gs:=gs) (F:=F) (H:=H) Q b1 (λb a=>(Bu (H:=V) (g':=(o.1,S)) M (λb a=>.inl a) (λb a=>g7.2 b a) b a).imp id (λq=>by omega));exact P F' an r1 r2
end Go.Proofs.YtmkbhnholcaghaaGreatDoor
