/-
 The document's disk in memory; its files' pages; what it looks up.
-/
import Derived.Test.YtdpdmbceakdlmaaGreatDoorDku
open Go.Proofs.Tryz renaming prog->KE
open List renaming mem_of_getElem?->KH,getElem?_eq_some_iff->KI,getElem?_eq_getElem->KJ,mem_iff_getElem?->KQ,replicate->KY
open Nat renaming zero_le->Lh
namespace Go.Proofs.YtdpdmbceakdlmaaGreatDoor
open Go.MapKept
def iU:fN Pg:=⟨1,λp=>[.string (cu p.1)],λ_=>rfl,λx u hu=>by simp at hu;subst hu;rfl⟩
def vq:fN Wr:=⟨3,λw=>[.int .i64 w.no,.int .i64 w.page,.string (cu w.b.1)],λ_=>rfl,λx u hu=>by simp at hu;rcases hu with rfl|rfl|rfl<;>rfl⟩
def rU:fN (ByteArray×Sl×Sl):=⟨3,λf=>[.string f.1,f.2.1.v,f.2.2.v],λ_=>rfl,λx u hu=>by simp at hu;rcases hu with rfl|rfl|rfl<;>rfl⟩
theorem Dm:uy KE iD iA iU.size 16:=ic (by kernel_rfl)
theorem Jm:uy KE Jg wT vq.size 32:=ic (by kernel_rfl)
theorem IC:uy KE HR uA rU.size 64:=ic (by kernel_rfl)
def tK:List Fl->List (Sl×Sl)->List (ByteArray×Sl×Sl)
 |f::fs,g::gs=>(f.name,g.1,g.2)::tK fs gs
 |_,_=>[]
theorem lA:∀(fs:List Fl) (gs:List (Sl×Sl)) (i:Nat) (f:Fl) (g:Sl×Sl),fs[i]?=some f->gs[i]?=some g->(tK fs gs)[i]?=some (f.name,g.1,g.2)
 |[],_,_,_,_,h,_=>by simp at h
 |_::_,[],_,_,_,_,h=>by simp at h
 |f::fs,g::gs,0,_,_,h1,h2=>by simp at h1 h2;subst h1;subst h2;rfl
 |f::fs,g::gs,i+1,f',g',h1,h2=>by simpa[tK] using lA fs gs i f' g' (by simpa using h1) (by simpa using h2)
theorem fZ:∀(fs:List Fl) (gs:List (Sl×Sl)),gs.length=fs.length->(tK fs gs).length=fs.length
 |[],_,_=>by cases ‹List (Sl×Sl)›<;>rfl
 |_::_,[],h=>by simp at h
 |f::fs,g::gs,h=>by simp[tK,fZ fs gs (by simpa using h)]
structure aO (H:Heap)(fl:Sl)(gs:List (Sl×Sl))(fs:List Fl):Prop where
 arr:aK rU uA H fl (tK fs gs)
 len:gs.length=fs.length
 ent:∀(i:Nat) (f:Fl) (g:Sl×Sl),fs[i]?=some f->gs[i]?=some g->aK iU iA H g.1 f.synced/\aK vq wT H g.2 f.log
 apart:∀(i j:Nat) (g g':Sl×Sl),gs[i]?=some g->gs[j]?=some g'->i≠j->∀b,al g.2 b->¬al g'.2 b
def yQ (fl:Sl)(gs:List (Sl×Sl))(b:Nat):Prop:=al fl b\/∃g∈gs,al g.1 b\/al g.2 b
theorem aO.zN {H:Heap}{fl:Sl}{gs:List (Sl×Sl)}{fs:List Fl}(h:aO H fl gs fs){i:Nat}{f:Fl}(hi:fs[i]?=some f):∃g,gs[i]?=some g/\aK iU iA H g.1 f.synced/\aK vq wT H g.2 f.log:=by
 have hlt:=(KI.1 hi).1
 have hg:gs[i]?=some (gs[i]'(by rw[h.len];exact hlt)):=KJ _
 exact⟨_,hg,h.ent i f _ hi hg⟩
theorem aO.vo {H:Heap}{fl:Sl}{gs:List (Sl×Sl)}{fs:List Fl}(h:aO H fl gs fs){i:Nat}{g:Sl×Sl}(hi:gs[i]?=some g):∃f,fs[i]?=some f/\aK iU iA H g.1 f.synced/\aK vq wT H g.2 f.log:=by
 have hlt:=(KI.1 hi).1
 have hg:fs[i]?=some (fs[i]'(by rw[<-h.len];exact hlt)):=KJ _
 exact⟨_,hg,h.ent i _ g hg hi⟩
theorem aO.lt {H:Heap}{fl:Sl}{gs:List (Sl×Sl)}{fs:List Fl}(h:aO H fl gs fs):∀b,yQ fl gs b->b<H.size:=by
 rintro b (q|⟨g,hg,q⟩)
 ·exact h.arr.lt b q
 ·obtain⟨i,hi⟩:=KQ.1 hg
  obtain⟨f,_,q1,q2⟩:=h.vo hi
  rcases q with q|q
  ·exact q1.lt b q
  ·exact q2.lt b q
theorem aO.ak {H H':Heap}{fl:Sl}{gs:List (Sl×Sl)}{fs:List Fl}(h:aO H fl gs fs)(k:∀b,yQ fl gs b->b<H.size->H'[b]?=H[b]?):aO H' fl gs fs:=
 ⟨h.arr.ak λb hb=>k b (.inl hb),h.len,λi f g hf hg=>⟨(h.ent i f g hf hg).1.ak λb hb=>k b (.inr ⟨g,KH hg,.inl hb⟩),(h.ent i f g hf hg).2.ak λb hb=>k b (.inr ⟨g,KH hg,.inr hb⟩)⟩,h.apart⟩
theorem aO.ty {H:Heap}{fl:Sl}{gs:List (Sl×Sl)}{fs:List Fl}(h:aO H fl gs fs):∀b,yQ fl gs b->∃cs t,H[b]?=some (.cells cs t (0,0))/\(t=uA\/t=iA\/t=wT):=by
 rintro b (q|⟨g,hg,q⟩)
 ·obtain⟨c,e⟩:=h.arr.obj b q;exact⟨c,_,e,.inl rfl⟩
 ·obtain⟨i,hi⟩:=KQ.1 hg
  obtain⟨f,_,q1,q2⟩:=h.vo hi
  rcases q with q|q
  ·obtain⟨c,e⟩:=q1.obj b q;exact⟨c,_,e,.inr (.inl rfl)⟩
  ·obtain⟨c,e⟩:=q2.obj b q;exact⟨c,_,e,.inr (.inr rfl)⟩
def dt (fl:Sl)(most quota ops next:Int)(laid:Bool)(cin kp:Int)(down:Bool):Array Value:=
 #[fl.v,.int .i64 most,.int .i64 quota,.int .i64 ops,.int .i64 next,.bool laid,.int .i64 cin,.int .u64 kp,.bool down]
structure iW (fl:Sl)(gs:List (Sl×Sl))(cin kp:Int)(H:Heap)(d:Nat)(s:Dk):Prop where
 head:aj H d uR (dt fl s.most s.quota s.ops s.next s.crash.isSome cin kp s.down)
 crash:jz s cin kp
 files:aO H fl gs s.files
 wf:s.WF
def cr (F:Nat->Prop)(H:Heap)(d:Nat)(s:Dk):Prop:=∃fl gs cin kp,iW fl gs cin kp H d s/\∀b,F b↔b=d\/yQ fl gs b
theorem iW.off {H:Heap}{d:Nat}{fl:Sl}{gs:List (Sl×Sl)}{fs:List Fl}{cs:Array Value}(hd:aj H d uR cs)(h:aO H fl gs fs):¬yQ fl gs d:=by
 intro hb
 obtain⟨c,t,e,ht⟩:=h.ty d hb
 rw[<-aQ hd e] at ht
 exact absurd ht (by decide)
theorem cr.lt {F:Nat->Prop}{H:Heap}{d:Nat}{s:Dk}(h:cr F H d s):∀b,F b->b<H.size:=by
 obtain⟨fl,gs,cin,kp,g,hF⟩:=h
 intro b hb
 rcases (hF b).1 hb with rfl|q
 ·exact aG g.head
 ·exact g.files.lt b q
theorem cr.ak {F:Nat->Prop}{H H':Heap}{d:Nat}{s:Dk}(h:cr F H d s)(k:∀b,F b->b<H.size->H'[b]?=H[b]?):cr F H' d s:=by
 obtain⟨fl,gs,cin,kp,g,hF⟩:=h
 exact⟨fl,gs,cin,kp,⟨(k d ((hF d).2 (.inl rfl)) (aG g.head)).trans g.head,g.crash,g.files.ak λb hb=>k b ((hF b).2 (.inr hb)),g.wf⟩,hF⟩
theorem cr.wf {F:Nat->Prop}{H:Heap}{d:Nat}{s:Dk}(h:cr F H d s):s.WF:=by
 obtain⟨fl,gs,cin,kp,g,hF⟩:=h;exact g.wf
theorem iW.out {fl fl':Sl}{gs gs':List (Sl×Sl)}{cin kp:Int}{F:Nat->Prop}{H H':Heap}{d:Nat}{s:Dk}(h:iW fl' gs' cin kp H' d s)(hF:∀b,F b↔b=d\/yQ fl gs b)(hm:Mod F H H')(ho:∀b,yQ fl' gs' b->yQ fl gs b\/H.size<=b):
  ∃F',cr F' H' d s/\Step F F' H H':=
 ⟨λb=>b=d\/yQ fl' gs' b,⟨fl',gs',cin,kp,h,λ_=>Iff.rfl⟩,hm,by
  rintro b (e|q)
  ·exact .inl ((hF b).2 (.inl e))
  ·exact(ho b q).imp (λq=>(hF b).2 (.inr q)) id⟩
theorem aK.one {α:Type}{E:fN α}{e:TypeId}{H:Heap}{s:Sl}{l:List α}(h:aK E e H s l){i:Nat}{x:α}{c:eN}{y:c.α}(hi:l[i]?=some x)(hs:E.size=1)(hy:E.enc x=[c.enc y]){ad:Addr}(ha:s.a=some ad){K:c.α->Prop}(hK:K y):ld c H (ad.add (i*1)) K:=by
 have:=cS.ld (c:=c) (K:=K) h.rd ha (i:=i) (j:=0) hi (by rw[hy];rfl) (n:=i*1) (by rw[hs]) hK
 rw[add_add] at this
 exact this
theorem yU {l:Sl}{ps:List Pg}{w:Wr}{H:Heap}{K:Sl->Heap->Prop}(h:aK iU iA H l ps)(hlen:ps.length<=2097152)(hpage:w.page<2097152)
  (hK:∀l' H',aK iU iA H' l' (dq ps w)->Mod (λ_=>False) H H'->(∀b,al l' b->H.size<=b)->K l' H'):EM.sp l w.no w.page (cu w.b.1) H K:=by
 refine EM.of ?_
 unfold EM.vc
 refine ao λH1 s1 r1 m1=>?_
 have hl1:aK iU iA H1 l ps:=h.ext m1
 refine aK.append (E:=iU) Dm (s:=Sl.mk none 0 0) (x:=l) (l:=[]) (aK.nil _ _ _) hl1.rd (hl1.n (by decide)) (by simp;omega) (by simp;omega) λout H2 o2 g2 _=>?_
 have f2:∀b,al out b->H1.size<=b:=λb hb=>(g2.2 b hb).resolve_left (by rintro⟨ad,q,_⟩;cases q)
 have m12:Mod (λ_=>False) H1 H2:=g2.1.mono λb _ hb=>by obtain⟨ad,q,_⟩:=hb;cases q
 refine⟨Nat,λk l1 H3=>aK iU iA H3 l1 (ps++KY k D0)/\k<=w.page+1 - ps.length/\Mod (λ_=>False) H1 H3/\(∀b,al l1 b->H1.size<=b),λk=>w.page+1 - ps.length - k,⟨0,by simpa using o2,Lh _,m12,f2⟩,?_⟩
 rintro k l1 H3 ⟨o3,hk,m3,f3⟩
 have hn:l1.n=ps.length+k:=by rw[aK.n o3 (by decide)];simp
 have r3:=r1.ext m3
 refine r3.ld (c:=aa .i64) (i:=1) (x:=(w.page:Int)) rfl ?_
 refine ae (λhc=>?_) (λhc=>?_)
 ·have hc':l1.n<=w.page:=by simpa using hc
  refine uu.make (base:=0) (by omega) (Int.le_refl _) (by omega) (by omega) (Lh _) λb4 H4 hn4 o4 e4 f4 _=>?_
  have o4':aK EB dF H4 b4 D0.1:=by
   refine Ia ?_
   have:D0.1=KY 512 0:=rfl
   rw[this,Fm]
   exact o4
  refine jD (bY o4') ?_
  refine aK.push (E:=iU) Dm (x:=D0) (o3.ext e4) rfl (by simp;omega) (by simp;omega) λs5 H5 o5 g5 _=>?_
  have z3:=m3.size;have z4:=e4.size;have z5:=g5.1.size
  refine⟨k+1,⟨?_,by omega,?_,?_⟩,by show _ - _<_ - _;omega⟩
  ·rw[List.append_assoc,<-List.replicate_succ'] at o5;exact o5
  ·refine⟨by omega,λb hb _=>(g5.1.same b (by omega) λhh=>by have:=f3 b hh;omega).trans ((e4.same b (by omega) id).trans (m3.same b hb id))⟩
  ·intro b hb
   rcases g5.2 b hb with q|q
   ·exact f3 b q
   ·omega
 ·have hc':w.page<l1.n:=by simpa using hc
  refine r3.ld (c:=aa .i64) (i:=1) (x:=(w.page:Int)) rfl ?_
  refine r3.ld (c:=aV) (i:=2) (x:=cu w.b.1) rfl ?_
  obtain⟨ad,ha⟩:=cS.addr o3.rd (by decide) (by simp;omega)
  rw[ha]
  refine⟨⟨by omega,by omega⟩,?_⟩
  have hx:(ps++KY k D0)[w.page]?=some ((ps++KY k D0)[w.page]'(by simp;omega)):=KJ _
  have:=aK.st (E:=iU) o3 ha (i:=w.page) (j:=0) (y:=w.b) (v:=.string (cu w.b.1)) (K:=λH7=>K l1 H7) hx (by decide) rfl rfl (n:=w.page*1) rfl λH4 o4 m4 s4=>by
   have hkk:k=w.page+1 - ps.length:=by omega
   have z3:=m3.size
   refine hK l1 H4 (by unfold dq;rw[<-hkk];exact o4) ⟨by omega,λb hb _=>(m4.same b (by omega) λhh=>by have:=f3 b hh;omega).trans ((m3.same b (by omega) id).trans (m1.same b hb id))⟩ (λb hb=>by have:=f3 b hb;omega)
  rw[add_add] at this
  simp only[Int.toNat_natCast]
  exact this
theorem kJ {f:Fl}{g:Sl×Sl}{nm:ByteArray}{H:Heap}{K:Sl->Heap->Prop}(h1:aK iU iA H g.1 f.synced)(h2:aK vq wT H g.2 f.log)(hp:f.au.length<=2097152)(hl:f.log.length<68719476736)
  (hK:∀l H',aK iU iA H' l f.au->Mod (λ_=>False) H H'->(∀b,al l b->H.size<=b)->K l H'):Bm.sp nm g.1 g.2 H K:=by
 refine Bm.of ?_
 unfold Bm.vc
 refine ao λH1 s1 r1 m1=>?_
 refine r1.ld (c:=av) (i:=1) (x:=g.1) rfl ?_
 have hsl:=f.sg
 have a1:aK iU iA H1 g.1 f.synced:=h1.ext m1
 have b1:aK vq wT H1 g.2 f.log:=h2.ext m1
 refine aK.append (E:=iU) Dm (s:=Sl.mk none 0 0) (x:=g.1) (l:=[]) (aK.nil _ _ _) a1.rd (a1.n (by decide)) (by simp;omega) (by simp;omega) λout H2 o2 g2 _=>?_
 have f2:∀b,al out b->H1.size<=b:=λb hb=>(g2.2 b hb).resolve_left (by rintro⟨ad,q,_⟩;cases q)
 have m12:Mod (λ_=>False) H1 H2:=g2.1.mono λb _ hb=>by obtain⟨ad,q,_⟩:=hb;cases q
 have hn:=b1.n (by decide)
 refine ay f.log.length (λk x H3=>x.2=(k:Int)/\aK iU iA H3 x.1 ((f.log.take k).foldl dq f.synced)/\Mod (λ_=>False) H1 H3/\(∀b,al x.1 b->H1.size<=b)) ⟨rfl,by simpa using o2,m12,f2⟩ ?_
 rintro k ⟨l1,i⟩ H3 next hk ⟨hi,o3,m3,f3⟩ hnext
 simp only at hi
 subst hi
 simp only at o3 f3 hnext ⊢
 have r3:=r1.ext m3
 refine r3.ld (c:=av) (i:=2) (x:=g.2) rfl ?_
 refine ae (λhc=>?_) (λhc=>?_)
 ·have hlt:k<f.log.length:=by rw[hn] at hc;simpa using hc
  refine r3.ld (c:=av) (i:=2) (x:=g.2) rfl ?_
  have b3:=b1.ext m3
  obtain⟨ad,ha⟩:=cS.addr (aK.rd b3) (by decide) (by omega)
  rw[ha]
  refine⟨⟨by omega,by omega⟩,?_⟩
  have hw:f.log[k]?=some f.log[k]:=KJ hlt
  obtain⟨w,hwe⟩:∃w,w=f.log[k]:=⟨_,rfl⟩
  rw[<-hwe] at hw
  refine cS.dI (E:=vq) (c:=dr [(aa .i64),(aa .i64),aV]) (y:=(w.no,(w.page:Int),cu w.b.1)) (aK.rd b3) ha hw rfl (by simp[vq]) rfl ?_
  have hle:((f.log.take k).foldl dq f.synced).length<=f.au.length:=by
   have:=lG f.log (λ_=>true) k f.synced
   rw[List.filter_eq_self.2 (λ_ _=>rfl)] at this
   exact this
  have hpg:=lI f.log f.synced w (KH hw)
  have hpe:(f.log.foldl dq f.synced).length=f.au.length:=rfl
  refine yU (w:=w) o3 (by omega) (by omega) λl4 H4 o4 m4 f4=>?_
  have z3:=m3.size
  refine hnext hlt _ _ ⟨aI k (by omega),?_,m3.trans m4,λb hb=>by have:=f4 b hb;omega⟩
  rw[List.take_succ_eq_append_getElem hlt,<-hwe,List.foldl_append]
  exact o4
 ·have hge:k=f.log.length:=by rw[hn] at hc;simp at hc;omega
  rw[hge,List.take_of_length_le (Nat.le_refl _)] at o3
  exact hK l1 H3 o3 (m1.trans m3) (λb hb=>by have:=f3 b hb;omega)
end Go.Proofs.YtdpdmbceakdlmaaGreatDoor
