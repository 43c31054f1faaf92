/-
 The disk in memory.
-/
import Derived.Test.YtmkbhnholcaghaaGreatDoorVc
import Derived.Test.YtmkbhnholcaghaaGreatDoorFxm
import Derived.Test.YtmkbhnholcaghaaGreatDoorDkm
open List renaming getElem?_eq_some_iff->N7,getElem?_eq_getElem->N8,mem_of_getElem?->N9,mem_iff_getElem?->Oh,mem_map->Ol,mem_cons->Oq,getElem?_set->OS,length_map->OT
namespace Go.Proofs.YtmkbhnholcaghaaGreatDoor
open Go.MapKept
def fZ (p:List UInt8):List Value:=p.map λx=>.int .u8 (x.toNat:Int)
def cD (l:List UInt8):ByteArray:=⟨l.toArray⟩
def tP:eJ Pg:=⟨512,λp=>fZ p.1,λp=>by rw[fZ,OT];exact p.2,λp u hu=>by obtain⟨x,_,rfl⟩:=Ol.1 hu;rfl⟩
def wQ:eJ Wr:=⟨514,λw=>.int .i64 w.no::.int .i64 w.page::fZ w.b.1,λw=>by simp only[List.length_cons,fZ,OT,w.b.2],λw u hu=>by
 rcases Oq.1 hu with e|hu
 ·rw[e];rfl
 ·rcases Oq.1 hu with e|hu
  ·rw[e];rfl
  ·obtain⟨x,_,rfl⟩:=Ol.1 hu;rfl⟩
structure FG where
 p:Nat
 now:Sl
 syn:Sl
 log:Sl
def FG.fp (g:FG)(b:Nat):Prop:=b=g.p\/ag g.now b\/ag g.syn b\/ag g.log b
structure cC (H:aa)(g:FG)(f:Fl):Prop where
 row:aj H g.p CL #[g.now.v,g.syn.v,g.log.v]
 now:az tP uA H g.now f.aq
 syn:az tP uA H g.syn f.synced
 log:az wQ qR H g.log f.log
 apart:∀b,ag g.now b->¬ag g.syn b
theorem cC.lt {H:aa}{g:FG}{f:Fl}(h:cC H g f):∀b,g.fp b->b<H.size:=by
 rintro b (rfl|a|a|a)
 ·exact aA h.row
 ·exact h.now.lt b a
 ·exact h.syn.lt b a
 ·exact h.log.lt b a
theorem cC.keep {H H':aa}{g:FG}{f:Fl}(h:cC H g f)(k:∀b,g.fp b->b<H.size->H'[b]?=H[b]?):cC H' g f:=
 ⟨(k _ (.inl rfl) (aA h.row)).trans h.row,h.now.keep λb a=>k b (.inr (.inl a)),h.syn.keep λb a=>k b (.inr (.inr (.inl a))),h.log.keep λb a=>k b (.inr (.inr (.inr a))),h.apart⟩
theorem cC.obj {H:aa}{g:FG}{f:Fl}(h:cC H g f):∀b,g.fp b->∃cs t,H[b]?=some (.cells cs t (0,0))/\(t=CL\/t=uA\/t=qR):=by
 rintro b (rfl|a|a|a)
 ·exact⟨_,_,h.row,.inl rfl⟩
 ·obtain⟨c,q⟩:=h.now.obj b a;exact⟨c,_,q,.inr (.inl rfl)⟩
 ·obtain⟨c,q⟩:=h.syn.obj b a;exact⟨c,_,q,.inr (.inl rfl)⟩
 ·obtain⟨c,q⟩:=h.log.obj b a;exact⟨c,_,q,.inr (.inr rfl)⟩
structure DG where
 m:Nat
 es:Array MapEntry
 clk:Nat
 gs:List FG
def DG.fp (x:DG)(b:Nat):Prop:=b=x.m\/∃g∈x.gs,g.fp b
def df (p:Nat):Value:=.pointer (some ⟨p,0,none⟩)
structure aW (H:aa)(x:DG)(fs:List Fl):Prop where
 map:ca .string H x.m x.es x.clk
 len:x.gs.length=fs.length
 size:x.es.size=fs.length
 ent:∀(i:Nat) (f:Fl) (g:FG),fs[i]?=some f->x.gs[i]?=some g->eT x.es (.string f.name) (df g.p)/\cC H g f
 ent':∀k v,eT x.es k v->∃(i:Nat) (f:Fl) (g:FG),fs[i]?=some f/\x.gs[i]?=some g/\k=.string f.name/\v=df g.p
 apart:∀(i j:Nat) (g g':FG),x.gs[i]?=some g->x.gs[j]?=some g'->i≠j->∀b,g.fp b->¬g'.fp b
theorem aW.BG {H:aa}{x:DG}{fs:List Fl}(h:aW H x fs){i:Nat}{f:Fl}(hi:fs[i]?=some f):∃g,x.gs[i]?=some g/\eT x.es (.string f.name) (df g.p)/\cC H g f:=by
 have a:=(N7.1 hi).1;have b:x.gs[i]?=some (x.gs[i]'(by rw[h.len];exact a)):=N8 _;exact⟨_,b,h.ent i f _ hi b⟩
theorem aW.xW {H:aa}{x:DG}{fs:List Fl}(h:aW H x fs){i:Nat}{g:FG}(hi:x.gs[i]?=some g):∃f,fs[i]?=some f/\eT x.es (.string f.name) (df g.p)/\cC H g f:=by
 have a:=(N7.1 hi).1;have b:fs[i]?=some (fs[i]'(by rw[<-h.len];exact a)):=N8 _;exact⟨_,b,h.ent i _ g b hi⟩
theorem aW.lt {H:aa}{x:DG}{fs:List Fl}(h:aW H x fs):∀b,x.fp b->b<H.size:=by
 rintro b (rfl|⟨g,a,c⟩)
 ·exact h.map.lt
 ·obtain⟨i,hi⟩:=Oh.1 a;obtain⟨f,_,_,q⟩:=h.xW hi;exact q.lt b c
theorem aW.keep {H H':aa}{x:DG}{fs:List Fl}(h:aW H x fs)(k:∀b,x.fp b->b<H.size->H'[b]?=H[b]?):aW H' x fs:=
 ⟨h.map.keep (k _ (.inl rfl) h.map.lt),h.len,h.size,λi f g c a=>⟨(h.ent i f g c a).1,(h.ent i f g c a).2.keep λb d=>k b (.inr ⟨g,N9 a,d⟩)⟩,h.ent',h.apart⟩
theorem aW.wv {H:aa}{x:DG}{fs:List Fl}(h:aW H x fs){g:FG}(a:g∈x.gs):¬g.fp x.m:=by
 intro b;obtain⟨i,hi⟩:=Oh.1 a;obtain⟨f,_,_,q⟩:=h.xW hi;obtain⟨cs,t,e,_⟩:=q.obj _ b;rw[h.map.obj] at e;cases e
theorem aW.Lr {H H':aa}{x:DG}{fs:List Fl}(h:aW H x fs){i:Nat}{f f':Fl}{g g':FG}(B:fs[i]?=some f)(u:x.gs[i]?=some g)(E:g'.p=g.p)(F:f'.name=f.name)(K:cC H' g' f')
  (hm:∀b,x.fp b->¬g.fp b->b<H.size->H'[b]?=H[b]?) (t:∀b,g'.fp b->g.fp b\/H.size<=b):aW H' {x with gs:=x.gs.set i g'} (fs.set i f')/\(∀b,DG.fp {x with gs:=x.gs.set i g'} b->x.fp b\/H.size<=b):=by
 have w:=(N7.1 B).1;have n:=(N7.1 u).1;have y:=N9 u;have others:∀j m,x.gs[j]?=some m->i≠j->∀b,m.fp b->¬g.fp b:=λj m L e b h1 d=>h.apart i j g m u L e b d h1;refine⟨⟨h.map.keep (hm _ (.inl rfl) (h.wv y) h.map.lt),by simp[h.len],by simp[h.size],?_,?_,?_⟩,?_⟩
 ·intro j A m h1 d;rw[OS] at h1;simp only[OS] at d;by_cases e:i=j
  ·subst e;rw[if_pos rfl,if_pos w] at h1;rw[if_pos rfl,if_pos n] at d;cases h1;cases d;refine⟨?_,K⟩;rw[F,E];exact(h.ent i f g B u).1
  ·rw[if_neg e] at h1 d;refine⟨(h.ent j A m h1 d).1,(h.ent j A m h1 d).2.keep λb t p=>hm b (.inr ⟨m,N9 d,t⟩) (others j m d e b t) p⟩
 ·intro k v C;obtain⟨j,A,m,h1,d,G,I⟩:=h.ent' k v C;by_cases e:i=j
  ·subst e;rw[B] at h1;rw[u] at d;cases h1;cases d;exact⟨i,f',g',by simp[w],by simp[n],by rw[F];exact G,by rw[E];exact I⟩
  ·exact⟨j,A,m,by rw[OS,if_neg e];exact h1,by simp only[OS];rw[if_neg e];exact d,G,I⟩
 ·intro a c J gc h1 d r b l o;simp only[OS] at h1 d;by_cases s:i=a
  ·subst s;rw[if_neg r] at d;rw[if_pos rfl,if_pos n] at h1;cases h1;have p:b<H.size:=by obtain⟨fc,_,_,q⟩:=h.xW d;exact q.lt b o
   rcases t b l with q|q
   ·exact others c gc d r b o q
   ·omega
  ·rw[if_neg s] at h1;have p:b<H.size:=by obtain⟨fc,_,_,q⟩:=h.xW h1;exact q.lt b l
   by_cases z:i=c
   ·subst z;rw[if_pos rfl,if_pos n] at d;cases d;rcases t b o with q|q
    ·exact others a J h1 s b l q
    ·omega
   ·rw[if_neg z] at d;exact h.apart a c J gc h1 d r b l o
 ·rintro b (rfl|⟨m,D,l⟩)
  ·exact .inl (.inl rfl)
  ·rcases List.mem_or_eq_of_mem_set D with q|q
   ·exact .inl (.inr ⟨m,q,l⟩)
   ·subst q;exact(t b l).imp (λq=>.inr ⟨g,y,q⟩) id
theorem aW.set {H H':aa}{x:DG}{fs:List Fl}(h:aW H x fs){i:Nat}{f f':Fl}{g g':FG}(c:fs[i]?=some f)(d:x.gs[i]?=some g)(e:g'.p=g.p)(a:f'.name=f.name)(j:cC H' g' f')
  (hm:Mod g.fp H H') (k:∀b,g'.fp b->g.fp b\/H.size<=b):aW H' {x with gs:=x.gs.set i g'} (fs.set i f')/\(∀b,DG.fp {x with gs:=x.gs.set i g'} b->x.fp b\/H.size<=b):=
 h.Lr c d e a j (λb _ a hl=>hm.same b hl a) k
def fi (m:Nat)(used most quota ops next:Int)(laid:Bool)(cin kp:Int)(down:Bool):Array Value:=
 #[.map (some m),.int .i64 used,.int .i64 most,.int .i64 quota,.int .i64 ops,.int .i64 next,.bool laid,.int .i64 cin,.int .u64 kp,.bool down]
def ke (s:Dk)(cin kp:Int):Prop:=∀i k,s.crash=some (i,k)->cin=i/\kp=k
structure di (x:DG)(cin kp:Int)(H:aa)(d:Nat)(s:Dk):Prop where
 head:aj H d xp (fi x.m s.used s.most s.quota s.ops s.next s.crash.isSome cin kp s.down)
 crash:ke s cin kp
 files:aW H x s.files
 wf:s.WF
def bo (F:Nat->Prop)(H:aa)(d:Nat)(s:Dk):Prop:=∃x cin kp,di x cin kp H d s/\∀b,F b↔b=d\/x.fp b
structure Step (F F':Nat->Prop)(H H':aa):Prop where
 mod:Mod F H H'
 own:∀b,F' b->F b\/H.size<=b
theorem Step.refl (F:Nat->Prop)(H:aa):Step F F H H:=⟨.refl _ _,λ_ h=>.inl h⟩
theorem Step.trans {F G K:Nat->Prop}{A B C:aa}(h:Step F G A B)(k:Step G K B C):Step F K A C:=by
 refine⟨h.mod.trans' k.mod λb a c=>(h.own b c).resolve_right (by omega),λb a=>?_⟩;rcases k.own b a with q|q
 ·exact h.own b q
 ·exact .inr (Nat.le_trans h.mod.size q)
theorem di.lO {x:DG}{H:aa}{d:Nat}{fs:List Fl}{cs:Array Value}(hd:aj H d xp cs)(h:aW H x fs):¬x.fp d:=by
 rintro(e|⟨g,b,j⟩)
 ·have:=h.map.obj;rw[<-e,hd] at this;cases this
 ·obtain⟨i,hi⟩:=Oh.1 b;obtain⟨f,_,_,q⟩:=h.xW hi;obtain⟨c,t,e,a⟩:=q.obj _ j;have:=aF hd e;rw[<-this] at a;exact absurd a (by decide)
theorem bo.lt {F:Nat->Prop}{H:aa}{d:Nat}{s:Dk}(h:bo F H d s):∀b,F b->b<H.size:=by
 obtain⟨x,cin,kp,g,a⟩:=h;intro b c;rcases (a b).1 c with rfl|q
 ·exact aA g.head
 ·exact g.files.lt b q
theorem bo.keep {F:Nat->Prop}{H H':aa}{d:Nat}{s:Dk}(h:bo F H d s)(k:∀b,F b->b<H.size->H'[b]?=H[b]?):bo F H' d s:=by
 obtain⟨x,cin,kp,g,a⟩:=h;exact⟨x,cin,kp,⟨(k d ((a d).2 (.inl rfl)) (aA g.head)).trans g.head,g.crash,g.files.keep λb c=>k b ((a b).2 (.inr c)),g.wf⟩,a⟩
theorem bo.wf {F:Nat->Prop}{H:aa}{d:Nat}{s:Dk}(h:bo F H d s):s.WF:=by
 obtain⟨x,cin,kp,g,a⟩:=h;exact g.wf
theorem di.out {x a:DG}{cin kp:Int}{F:Nat->Prop}{H H':aa}{d:Nat}{s:Dk}(h:di a cin kp H' d s)(c:∀b,F b↔b=d\/x.fp b)(hm:Mod F H H')(f:∀b,a.fp b->x.fp b\/H.size<=b):
  ∃F',bo F' H' d s/\Step F F' H H':=
 ⟨λb=>b=d\/a.fp b,⟨a,cin,kp,h,λ_=>Iff.rfl⟩,hm,by
  rintro b (e|q)
  ·exact .inl ((c b).2 (.inl e))
  ·exact(f b q).imp (λq=>(c b).2 (.inr q)) id⟩
theorem lK {d:Nat}{cs:Array Value}{down:Bool}{H:aa}{K:Int->aa->Prop}(h:aj H d xp cs)(hd:cs[9]?=some (.bool down))(a:K (if down then 4 else 0) H):Dv.sp (some ⟨d,0,none⟩) H K:=by
 refine Dv.of ?_;unfold Dv.vc;refine h.ld (c:=ay) (i:=9) (x:=down) hd ?_;cases down with
 |true=>exact a
 |false=>exact a
theorem Ek {n:ByteArray}{H:aa}{K:Bool->aa->Prop}(a:K (named n) H):IG.sp n H K:=by
 refine IG.of ?_;unfold IG.vc;have e:((!(n.toList==ByteArray.empty.toList))&&(decide ((n.size:Int)<=(100:Int))))=named n:=by
  unfold named;congr 1
  ·rw[Bool.eq_iff_iff];simp only[Bool.not_eq_true',beq_eq_false_iff_ne,ne_eq,decide_eq_true_eq];rw[KO];constructor
   ·intro h;rcases Nat.eq_zero_or_pos n.size with q|q
    ·exact absurd (ByteArray.ext (Array.eq_empty_of_size_eq_zero q)) h
    ·exact q
   ·intro h e;subst e;simp at h
  ·rw[decide_eq_decide];omega
 rw[e];exact a
end Go.Proofs.YtmkbhnholcaghaaGreatDoor
