/-
 The document's disk in memory; its files' pages; what it looks up.
-/
import Derived.Test.YtmkbhnholcaghaaGreatDoorDku
open Go.Proofs.Tryz renaming prog->Oj
open List renaming getElem?_eq_some_iff->Om,getElem?_eq_getElem->On,mem_of_getElem?->Oo,mem_iff_getElem?->Oz,replicate->OR
open Nat renaming zero_le->OL
namespace Go.Proofs.YtmkbhnholcaghaaGreatDoor
open Go.MapKept
def js:eK Pg:=⟨1,λp=>[.string (cG p.1)],λ_=>rfl,λx u hu=>by simp at hu;subst hu;rfl⟩
def yM:eK Wr:=⟨3,λw=>[.int .i64 w.no,.int .i64 w.page,.string (cG w.b.1)],λ_=>rfl,λx u hu=>by simp at hu;rcases hu with rfl|rfl|rfl<;>rfl⟩
def pT:eK (ByteArray×Sl×Sl):=⟨3,λf=>[.string f.1,f.2.1.v,f.2.2.v],λ_=>rfl,λx u hu=>by simp at hu;rcases hu with rfl|rfl|rfl<;>rfl⟩
theorem Fw:rq Oj dM dy js.size 16:=eL (by kernel_rfl)
theorem Mo:rq Oj Mh y6 yM.size 32:=eL (by kernel_rfl)
theorem I5:rq Oj Df uo pT.size 64:=eL (by kernel_rfl)
def qx:List Fl->List (Sl×Sl)->List (ByteArray×Sl×Sl)
 |f::fs,g::gs=>(f.name,g.1,g.2)::qx fs gs
 |_,_=>[]
theorem mP:∀(fs:List Fl) (gs:List (Sl×Sl)) (i:Nat) (f:Fl) (g:Sl×Sl),fs[i]?=some f->gs[i]?=some g->(qx fs gs)[i]?=some (f.name,g.1,g.2)
 |[],_,_,_,_,h,_=>by simp at h
 |_::_,[],_,_,_,_,h=>by simp at h
 |f::fs,g::gs,0,_,_,h1,a=>by simp at h1 a;subst h1;subst a;rfl
 |f::fs,g::gs,i+1,f',g',h1,a=>by simpa[qx] using mP fs gs i f' g' (by simpa using h1) (by simpa using a)
theorem fg:∀(fs:List Fl) (gs:List (Sl×Sl)),gs.length=fs.length->(qx fs gs).length=fs.length
 |[],_,_=>by cases ‹List (Sl×Sl)›<;>rfl
 |_::_,[],h=>by simp at h
 |f::fs,g::gs,h=>by simp[qx,fg fs gs (by simpa using h)]
structure aK (H:aa)(fl:Sl)(gs:List (Sl×Sl))(fs:List Fl):Prop where
 arr:az pT uo H fl (qx fs gs)
 len:gs.length=fs.length
 ent:∀(i:Nat) (f:Fl) (g:Sl×Sl),fs[i]?=some f->gs[i]?=some g->az js dy H g.1 f.synced/\az yM y6 H g.2 f.log
 apart:∀(i j:Nat) (g g':Sl×Sl),gs[i]?=some g->gs[j]?=some g'->i≠j->∀b,ah g.2 b->¬ah g'.2 b
def Bm (fl:Sl)(gs:List (Sl×Sl))(b:Nat):Prop:=ah fl b\/∃g∈gs,ah g.1 b\/ah g.2 b
theorem aK.BT {H:aa}{fl:Sl}{gs:List (Sl×Sl)}{fs:List Fl}(h:aK H fl gs fs){i:Nat}{f:Fl}(hi:fs[i]?=some f):∃g,gs[i]?=some g/\az js dy H g.1 f.synced/\az yM y6 H g.2 f.log:=by
 have a:=(Om.1 hi).1;have b:gs[i]?=some (gs[i]'(by rw[h.len];exact a)):=On _;exact⟨_,b,h.ent i f _ hi b⟩
theorem aK.yd {H:aa}{fl:Sl}{gs:List (Sl×Sl)}{fs:List Fl}(h:aK H fl gs fs){i:Nat}{g:Sl×Sl}(hi:gs[i]?=some g):∃f,fs[i]?=some f/\az js dy H g.1 f.synced/\az yM y6 H g.2 f.log:=by
 have a:=(Om.1 hi).1;have b:fs[i]?=some (fs[i]'(by rw[<-h.len];exact a)):=On _;exact⟨_,b,h.ent i _ g b hi⟩
theorem aK.lt {H:aa}{fl:Sl}{gs:List (Sl×Sl)}{fs:List Fl}(h:aK H fl gs fs):∀b,Bm fl gs b->b<H.size:=by
 rintro b (q|⟨g,a,q⟩)
 ·exact h.arr.lt b q
 ·obtain⟨i,hi⟩:=Oz.1 a;obtain⟨f,_,c,d⟩:=h.yd hi;rcases q with q|q
  ·exact c.lt b q
  ·exact d.lt b q
theorem aK.keep {H H':aa}{fl:Sl}{gs:List (Sl×Sl)}{fs:List Fl}(h:aK H fl gs fs)(k:∀b,Bm fl gs b->b<H.size->H'[b]?=H[b]?):aK H' fl gs fs:=
 ⟨h.arr.keep λb a=>k b (.inl a),h.len,λi f g d c=>⟨(h.ent i f g d c).1.keep λb a=>k b (.inr ⟨g,Oo c,.inl a⟩),(h.ent i f g d c).2.keep λb a=>k b (.inr ⟨g,Oo c,.inr a⟩)⟩,h.apart⟩
theorem aK.ty {H:aa}{fl:Sl}{gs:List (Sl×Sl)}{fs:List Fl}(h:aK H fl gs fs):∀b,Bm fl gs b->∃cs t,H[b]?=some (.cells cs t (0,0))/\(t=uo\/t=dy\/t=y6):=by
 rintro b (q|⟨g,a,q⟩)
 ·obtain⟨c,e⟩:=h.arr.obj b q;exact⟨c,_,e,.inl rfl⟩
 ·obtain⟨i,hi⟩:=Oz.1 a;obtain⟨f,_,d,j⟩:=h.yd hi;rcases q with q|q
  ·obtain⟨c,e⟩:=d.obj b q;exact⟨c,_,e,.inr (.inl rfl)⟩
  ·obtain⟨c,e⟩:=j.obj b q;exact⟨c,_,e,.inr (.inr rfl)⟩
def de (fl:Sl)(most quota ops next:Int)(laid:Bool)(cin kp:Int)(down:Bool):Array Value:=
 #[fl.v,.int .i64 most,.int .i64 quota,.int .i64 ops,.int .i64 next,.bool laid,.int .i64 cin,.int .u64 kp,.bool down]
structure iq (fl:Sl)(gs:List (Sl×Sl))(cin kp:Int)(H:aa)(d:Nat)(s:Dk):Prop where
 head:aj H d wY (de fl s.most s.quota s.ops s.next s.crash.isSome cin kp s.down)
 crash:ku s cin kp
 files:aK H fl gs s.files
 wf:s.WF
def cq (F:Nat->Prop)(H:aa)(d:Nat)(s:Dk):Prop:=∃fl gs cin kp,iq fl gs cin kp H d s/\∀b,F b↔b=d\/Bm fl gs b
theorem iq.off {H:aa}{d:Nat}{fl:Sl}{gs:List (Sl×Sl)}{fs:List Fl}{cs:Array Value}(hd:aj H d wY cs)(h:aK H fl gs fs):¬Bm fl gs d:=by
 intro b;obtain⟨c,t,e,a⟩:=h.ty d b;rw[<-aG hd e] at a;exact absurd a (by decide)
theorem cq.lt {F:Nat->Prop}{H:aa}{d:Nat}{s:Dk}(h:cq F H d s):∀b,F b->b<H.size:=by
 obtain⟨fl,gs,cin,kp,g,a⟩:=h;intro b c;rcases (a b).1 c with rfl|q
 ·exact aA g.head
 ·exact g.files.lt b q
theorem cq.keep {F:Nat->Prop}{H H':aa}{d:Nat}{s:Dk}(h:cq F H d s)(k:∀b,F b->b<H.size->H'[b]?=H[b]?):cq F H' d s:=by
 obtain⟨fl,gs,cin,kp,g,a⟩:=h;exact⟨fl,gs,cin,kp,⟨(k d ((a d).2 (.inl rfl)) (aA g.head)).trans g.head,g.crash,g.files.keep λb c=>k b ((a b).2 (.inr c)),g.wf⟩,a⟩
theorem cq.wf {F:Nat->Prop}{H:aa}{d:Nat}{s:Dk}(h:cq F H d s):s.WF:=by
 obtain⟨fl,gs,cin,kp,g,a⟩:=h;exact g.wf
theorem iq.out {fl fl':Sl}{gs a:List (Sl×Sl)}{cin kp:Int}{F:Nat->Prop}{H H':aa}{d:Nat}{s:Dk}(h:iq fl' a cin kp H' d s)(c:∀b,F b↔b=d\/Bm fl gs b)(hm:Mod F H H')(f:∀b,Bm fl' a b->Bm fl gs b\/H.size<=b):
  ∃F',cq F' H' d s/\Step F F' H H':=
 ⟨λb=>b=d\/Bm fl' a b,⟨fl',a,cin,kp,h,λ_=>Iff.rfl⟩,hm,by
  rintro b (e|q)
  ·exact .inl ((c b).2 (.inl e))
  ·exact(f b q).imp (λq=>(c b).2 (.inr q)) id⟩
theorem az.one {α:Type}{E:eK α}{e:TypeId}{H:aa}{s:Sl}{l:List α}(h:az E e H s l){i:Nat}{x:α}{c:eM}{y:c.α}(hi:l[i]?=some x)(hs:E.size=1)(a:E.enc x=[c.enc y]){ad:Addr}(b:s.a=some ad){K:c.α->Prop}(d:K y):ld c H (ad.add (i*1)) K:=by
 have:=bQ.ld (c:=c) (K:=K) h.rd b (i:=i) (j:=0) hi (by rw[a];rfl) (n:=i*1) (by rw[hs]) d;rw[add_add] at this;exact this
theorem BG {l:Sl}{ps:List Pg}{w:Wr}{H:aa}{K:Sl->aa->Prop}(h:az js dy H l ps)(hlen:ps.length<=2097152)(g:w.page<2097152)
  (I:∀m H',az js dy H' m (dP ps w)->Mod (λ_=>False) H H'->(∀b,ah m b->H.size<=b)->K m H'):Hu.sp l w.no w.page (cG w.b.1) H K:=by
 refine Hu.of ?_;unfold Hu.vc;refine av λH1 s1 J m1=>?_;have e:az js dy H1 l ps:=h.ext m1;refine az.append (E:=js) Fw (s:=Sl.mk none 0 0) (x:=l) (l:=[]) (az.nil _ _ _) e.rd (e.n (by decide)) (by simp;omega) (by simp;omega) λout L M g2 _=>?_;have f2:∀b,ah out b->H1.size<=b:=λb a=>(g2.2 b a).resolve_left (by rintro⟨ad,q,_⟩;cases q);have m12:Mod (λ_=>False) H1 L:=g2.1.mono λb _ a=>by obtain⟨ad,q,_⟩:=a;cases q
 refine⟨Nat,λk d o=>az js dy o d (ps++OR k GO)/\k<=w.page+1 - ps.length/\Mod (λ_=>False) H1 o/\(∀b,ah d b->H1.size<=b),λk=>w.page+1 - ps.length - k,⟨0,by simpa using M,OL _,m12,f2⟩,?_⟩;rintro k d o ⟨f,hk,m3,f3⟩;have R:d.n=ps.length+k:=by rw[az.n f (by decide)];simp
 have p:=J.ext m3;refine p.ld (c:=ab .i64) (i:=1) (x:=(w.page:Int)) rfl ?_;refine ag (λr=>?_) (λr=>?_)
 ·have t:d.n<=w.page:=by simpa using r
  refine IU.make (base:=0) (by omega) (Int.le_refl _) (by omega) (by omega) (OL _) λN u O z A f4 _=>?_;have B:az EB fD u N GO.1:=by
   refine KU ?_;have:GO.1=OR 512 0:=rfl;rw[this,Hn];exact z
  refine kN (bW B) ?_;refine az.push (E:=js) Fw (x:=GO) (f.ext A) rfl (by simp;omega) (by simp;omega) λS T F g5 _=>?_;have z3:=m3.size;have z4:=A.size;have z5:=g5.1.size;refine⟨k+1,⟨?_,by omega,?_,?_⟩,by show _ - _<_ - _;omega⟩
  ·rw[List.append_assoc,<-List.replicate_succ'] at F;exact F
  ·refine⟨by omega,λb a _=>(g5.1.same b (by omega) λC=>by have:=f3 b C;omega).trans ((A.same b (by omega) id).trans (m3.same b a id))⟩
  ·intro b a;rcases g5.2 b a with q|q
   ·exact f3 b q
   ·omega
 ·have t:w.page<d.n:=by simpa using r
  refine p.ld (c:=ab .i64) (i:=1) (x:=(w.page:Int)) rfl ?_;refine p.ld (c:=aH) (i:=2) (x:=cG w.b.1) rfl ?_;obtain⟨ad,G⟩:=bQ.addr f.rd (by decide) (by simp;omega);rw[G];refine⟨⟨by omega,by omega⟩,?_⟩;have P:(ps++OR k GO)[w.page]?=some ((ps++OR k GO)[w.page]'(by simp;omega)):=On _;have:=az.st (E:=js) f G (i:=w.page) (j:=0) (y:=w.b) (v:=.string (cG w.b.1)) (K:=λQ=>K d Q) P (by decide) rfl rfl (n:=w.page*1) rfl λu z m4 U=>by
   have D:k=w.page+1 - ps.length:=by omega
   have z3:=m3.size;refine I d u (by unfold dP;rw[<-D];exact z) ⟨by omega,λb a _=>(m4.same b (by omega) λC=>by have:=f3 b C;omega).trans ((m3.same b (by omega) id).trans (m1.same b a id))⟩ (λb a=>by have:=f3 b a;omega)
  rw[add_add] at this;simp only[Int.toNat_natCast];exact this
theorem lF {f:Fl}{g:Sl×Sl}{nm:ByteArray}{H:aa}{K:Sl->aa->Prop}(h1:az js dy H g.1 f.synced)(B:az yM y6 H g.2 f.log)(M:f.aq.length<=2097152)(hl:f.log.length<68719476736)
  (C:∀l H',az js dy H' l f.aq->Mod (λ_=>False) H H'->(∀b,ah l b->H.size<=b)->K l H'):DU.sp nm g.1 g.2 H K:=by
 refine DU.of ?_;unfold DU.vc;refine av λH1 s1 p m1=>?_;refine p.ld (c:=ak) (i:=1) (x:=g.1) rfl ?_;have hsl:=f.uH;have r:az js dy H1 g.1 f.synced:=h1.ext m1;have t:az yM y6 H1 g.2 f.log:=B.ext m1;refine az.append (E:=js) Fw (s:=Sl.mk none 0 0) (x:=g.1) (l:=[]) (az.nil _ _ _) r.rd (r.n (by decide)) (by simp;omega) (by simp;omega) λout D F g2 _=>?_;have f2:∀b,ah out b->H1.size<=b:=λb d=>(g2.2 b d).resolve_left (by rintro⟨ad,q,_⟩;cases q);have m12:Mod (λ_=>False) H1 D:=g2.1.mono λb _ d=>by obtain⟨ad,q,_⟩:=d;cases q
 have u:=t.n (by decide);refine ar f.log.length (λk x m=>x.2=(k:Int)/\az js dy m x.1 ((f.log.take k).foldl dP f.synced)/\Mod (λ_=>False) H1 m/\(∀b,ah x.1 b->H1.size<=b)) ⟨rfl,by simpa using F,m12,f2⟩ ?_;rintro k ⟨G,i⟩ m next hk ⟨hi,n,m3,f3⟩ a
 simp only at hi;subst hi;simp only at n f3 a ⊢;have v:=p.ext m3;refine v.ld (c:=ak) (i:=2) (x:=g.2) rfl ?_;refine ag (λh=>?_) (λh=>?_)
 ·have e:k<f.log.length:=by rw[u] at h;simpa using h
  refine v.ld (c:=ak) (i:=2) (x:=g.2) rfl ?_;have z:=t.ext m3;obtain⟨ad,A⟩:=bQ.addr (az.rd z) (by decide) (by omega);rw[A];refine⟨⟨by omega,by omega⟩,?_⟩;have hw:f.log[k]?=some f.log[k]:=On e;obtain⟨w,j⟩:∃w,w=f.log[k]:=⟨_,rfl⟩;rw[<-j] at hw;refine bQ.c9 (E:=yM) (c:=bR [(ab .i64),(ab .i64),aH]) (y:=(w.no,(w.page:Int),cG w.b.1)) (az.rd z) A hw rfl (by simp[yM]) rfl ?_;have hle:((f.log.take k).foldl dP f.synced).length<=f.aq.length:=by
   have:=ng f.log (λ_=>true) k f.synced;rw[List.filter_eq_self.2 (λ_ _=>rfl)] at this;exact this
  have I:=nj f.log f.synced w (Oo hw);have J:(f.log.foldl dP f.synced).length=f.aq.length:=rfl;refine BG (w:=w) n (by omega) (by omega) λN O L m4 f4=>?_;have z3:=m3.size;refine a e _ _ ⟨aD k (by omega),?_,m3.trans m4,λb d=>by have:=f4 b d;omega⟩;rw[List.take_succ_eq_append_getElem e,<-j,List.foldl_append];exact L
 ·have o:k=f.log.length:=by rw[u] at h;simp at h;omega
  rw[o,List.take_of_length_le (Nat.le_refl _)] at n;exact C G m n (m1.trans m3) (λb d=>by have:=f3 b d;omega)
end Go.Proofs.YtmkbhnholcaghaaGreatDoor
