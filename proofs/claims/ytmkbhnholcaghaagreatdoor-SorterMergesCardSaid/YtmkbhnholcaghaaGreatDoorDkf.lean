/-
 The disk: Write and Read.
-/
import Derived.Test.YtmkbhnholcaghaaGreatDoorDke
open Bool renaming false_eq_true->Qf
open Go.Instr renaming fill->QY
open Go.IntKind renaming i64->Ol
open Go.Proofs.Tryz renaming prog->Oj
open Go.Value renaming int->OF
namespace Go.Proofs.YtmkbhnholcaghaaGreatDoor
open Go.MapKept
def eH (b:List UInt8):List Int:=b.map λx=>(x.toNat:Int)
abbrev bP (H:aa)(s:Sl)(b:List UInt8):Prop:=Ints .u8 H s (eH b)
theorem gI (b:List UInt8):(eH b).map (OF .u8)=gk b:=by simp[eH,gk]
theorem bP.n {H:aa}{s:Sl}{b:List UInt8}(h:bP H s b):s.n=b.length:=by have:=h.len;simpa[eH] using this
theorem bP.cells {H:aa}{s:Sl}{b:List UInt8}(h:bP H s b):Reads H s.a (gk b):=by rw[<-gI];exact h.reads
theorem bP.row {H:aa}{s:Sl}{b:List UInt8}{ad:Addr}(h:bP H s b)(c:s.a=some ad):lT H ad b.length (.agg (gk b).toArray):=by
 refine⟨_,rfl,by simp[gk],λi hi=>?_⟩;have d:(gk b)[i]?=some ((gk b)[i]'(by simpa[gk] using hi)):=List.getElem?_eq_getElem _;obtain⟨e,a,f⟩:=h.cells _ _ d;rw[c] at a;cases a;rw[f];simp
theorem bP.keep {H H':aa}{s:Sl}{b:List UInt8}(h:bP H s b)(k:∀ad,s.a=some ad->ad.block<H.size->H'[ad.block]?=H[ad.block]?):bP H' s b:=by
 refine⟨h.len,λi v e=>?_⟩;obtain⟨ad,c,d⟩:=h.reads i v e;have a:=jG d;rw[dE] at a;exact⟨ad,c,(gL (by rw[dE];exact k ad c a)).trans d⟩
theorem bP.addr {H:aa}{s:Sl}{b:List UInt8}(h:bP H s b)(a:0<b.length):∃ad,s.a=some ad/\ad.block<H.size:=by
 obtain⟨ad,c,d⟩:=h.reads.at (i:=0) (by simp[eH];exact a);have:=jG d;rw[dE] at this;exact⟨ad,c,this⟩
theorem nq {H H':aa}{ad:Addr}{n:Nat}{v:Value}(h:lT H ad n v)(k:H'[ad.block]?=H[ad.block]?):lT H' ad n v:=by
 obtain⟨cs,e,a,b⟩:=h;exact⟨cs,e,a,λi hi=>(gL (by rw[dE];exact k)).trans (b i hi)⟩
theorem Ao (parts:List (Nat×Value)):Oj.built qZ parts=QY (λi=>(#[(0,1),(1,1),(2,512)]:Array (Nat×Nat))[i]?) (zc Oj qZ) parts:=by kernel_rfl
theorem ke:(zc Oj qZ).size=514:=by kernel_rfl
theorem Di {no page:Int}{cs z:Array Value}(c:z.size=514)(a:cs.size=512):
  QY (λi=>(#[(0,1),(1,1),(2,512)]:Array (Nat×Nat))[i]?) z [(0,(.int .i64 no)),(1,(.int .i64 page)),(2,(.agg cs))]=some (#[.int .i64 no,.int .i64 page]++cs):=by
 have c1:(OF .i64 no).cells=#[.int .i64 no]:=rfl;have c2:(OF .i64 page).cells=#[.int .i64 page]:=rfl;have b:(Value.agg cs).cells=cs:=rfl;rw[ni (off:=0) (n:=1) (v:=.int .i64 no) rfl rfl (by omega),ni (off:=1) (n:=1) (v:=.int .i64 page) rfl rfl (by simp[c1];omega),ni (off:=2) (n:=512) (v:=.agg cs) rfl a (by simp[c1,c2];omega)];simp only[QY,c1,c2,b];refine congrArg some (Array.ext' ?_);simp;omega
theorem AP {no page:Int}{cs:Array Value}{K:Array Value->Prop}(a:cs.size=512)(b:K (#[.int .i64 no,.int .i64 page]++cs)):
  rY jU Oj (Instr.build qZ #[(0,(.int .i64 no)),(1,(.int .i64 page)),(2,(.agg cs))]) K:=by
 refine⟨_,λw=>?_,b⟩;refine run_build w _ _ _ ?_;rw[Ao];exact Di ke a
set_option maxHeartbeats 1000000 in
theorem FT {F:Nat->Prop}{d:Nat}{s:Dk}{H:aa}{n:ByteArray}{page:Int}{p3:Sl}{b:List UInt8}{K:Int->aa->Prop}(h:bo F H d s)(j:bP H p3 b)(b1:∀ad,p3.a=some ad->¬F ad.block)(b2:s.aB<68719476736)
  (M:∀F' H',bo F' H' d (s.write n page b).1->Step F F' H H'->K (s.write n page b).2 H'):Km.sp (aE d) n page p3 H K:=by
 have h0:=h;obtain⟨x,cin,kp,g,W⟩:=h;refine Km.of ?_;unfold Km.vc;simp only[al];have stay:∀e:Int,s.write n page b=(s,e)->K e H:=by
  intro e he;have:=M F H (by rw[he];exact h0) (.refl _ _);rw[he] at this;exact this
 refine lR g.head (down:=s.down) rfl ?_;cases hd:s.down with
 |true=>exact stay 4 (by unfold Dk.write;rw[hd];rfl)
 |false=>
   refine aC rfl ?_;have c5:=j.n;refine ag (λX=>stay 2 ?_) (λX=>?_)
   ·have:b.length≠512:=by simp at X;omega
    unfold Dk.write;rw[hd];simp[this]
   have a:b.length=512:=by simp at X;omega
   refine oo g (λa6=>by rw[hd] at a6;cases a6) (λ_ hN=>?_) (λi f l _ hi hf dc hg Y=>?_)
   ·refine⟨λ_ _=>False,stay 11 ?_,λ_ _ h=>h.elim⟩;unfold Dk.write;rw[hd];simp[a,hN]
   have o:s.file i=f:=Dk.dw hf;have cz:=Y.now.n (by decide);have w1:=g.wf.used;have w2:=g.wf.most;have w3:=g.wf.quota;have dk:=Dk.eR hf;have a7:page<0\/page>f.aq.length->s.write n page b=(s,12):=by
    intro w;unfold Dk.write;rw[hd];simp only[Qf,if_false,a,dif_pos,hi,o];rw[if_pos w]
   have e5:¬(page<0\/page>f.aq.length)->page=f.aq.length->s.used=s.quota->s.write n page b=(s,5):=by
    intro w h1 h2;unfold Dk.write;rw[hd];simp only[Qf,if_false,a,dif_pos,hi,o];rw[if_neg w,if_pos ⟨h1,by omega⟩]
   refine⟨λ_ H'=>H'=H/\¬(page<0\/page>f.aq.length)/\¬(page=f.aq.length/\s.used=s.quota),?_,?_⟩
   ·refine aC rfl ?_;refine ag (λw=>?_) (λw=>?_)
    ·exact aP w (stay 12 (a7 (.inl (by simpa using w))))
    ·have dm:¬page<0:=by simpa using w
     simp only[al];refine Y.row.ld (c:=ak) (i:=0) (x:=l.now) rfl ?_;refine ag (λw=>?_) (λw=>?_)
     ·exact stay 12 (a7 (.inr (by simp at w;omega)))
     ·have y:¬(page<0\/page>f.aq.length):=by simp at w;omega
      refine Y.row.ld (c:=ak) (i:=0) (x:=l.now) rfl ?_;refine ag (λhe=>?_) (λhe=>?_)
      ·have z:page=f.aq.length:=by simp at he;omega
       refine g.head.ld (c:=ab .i64) (i:=1) (x:=s.used) rfl ?_;refine g.head.ld (c:=ab .i64) (i:=3) (x:=s.quota) rfl ?_;refine ag (λhq=>?_) (λhq=>?_)
       ·exact stay 5 (e5 y z (by simp at hq;omega))
       ·exact⟨by trivial,y,λN=>by simp at hq;omega⟩
      ·exact⟨by trivial,y,λN=>by simp at he;omega⟩
   ·rintro _ H0 ⟨rfl,y,dn⟩;obtain⟨pg,rfl⟩:∃k:Nat,page=k:=⟨page.toNat,by omega⟩;have dA:pg<=f.aq.length:=by omega
    have hr:s.write n pg b=s.step λt=>(t.fW i ⟨t.next,pg,⟨b,a⟩⟩).jb (max t.most (t.fW i ⟨t.next,pg,⟨b,a⟩⟩).used):=by
     unfold Dk.write;rw[hd];simp only[Qf,if_false,a,dif_pos,hi,o];rw[if_neg y,if_neg (by omega)];rfl
    rw[hr] at M;unfold Dk.step at M;refine nf g λR H4 g4 m4 s4=>?_;refine ag (λhz=>?_) (λhz=>?_)
    ·have Z:s.change.2≠0:=by simpa using hz
     rw[if_neg Z] at M;obtain⟨F',q1,q2⟩:=g4.out (x:=x) (F:=F) (H:=H0) W (m4.mono λb _ e=>(W b).2 (.inl e)) (λb q=>.inl q);exact M F' H4 q1 q2
    have Z:s.change.2=0:=by simpa using hz
    rw[if_pos Z] at M;obtain⟨k1,k2,k3,k4⟩:=s.mn;have b3:=s.bm;generalize ht:s.change.1=t at*;have v:t.files[i]?=some f:=by rw[b3];exact hf
    have a8:=(g4.files.ent i f l v hg).2;have O:=List.mem_of_getElem? hg;have bb:=dj.lV g4.head g4.files
    -- how many pages there are then
    obtain⟨u,hu⟩:∃u:Nat,u=if pg=f.aq.length then t.used+1 else t.used:=⟨_,rfl⟩
    refine⟨λ_ S=>aj S d xB (fm x.m u (max t.most u:Nat) t.quota t.ops t.next t.crash.isSome R kp t.down)/\Mod (λb=>b=d) H4 S/\S.size=H4.size,?_,?_⟩
    ·refine a8.row.ld (c:=ak) (i:=0) (x:=l.now) rfl ?_;refine ag (λhe=>?_) (λhe=>?_)
     ·have z:pg=f.aq.length:=by simp at he;omega
      rw[if_pos z] at hu;refine g4.head.ld (c:=ab .i64) (i:=1) (x:=t.used) rfl ?_;refine g4.head.st (i:=1) (by simp[fm]) (by rfl) λH6 r6 m6 s6=>?_;have eu:Ol.wrap ((t.used:Int)+1)=(u:Int):=by rw[wrap64 (by omega) (by omega)];omega
      rw[eu] at r6;refine r6.ld (c:=ab .i64) (i:=2) (x:=t.most) rfl ?_;refine r6.ld (c:=ab .i64) (i:=1) (x:=u) rfl ?_;refine r6.st (i:=2) (by simp[fm]) (by rfl) λH7 r7 m7 s7=>?_;have em:(if (u:Int)>(t.most:Int) then (u:Int) else (t.most:Int))=((max t.most u:Nat):Int):=by split<;>omega
      rw[em] at r7;exact⟨r7,m6.trans m7,by omega⟩
     ·have z:pg≠f.aq.length:=by simp at he;omega
      rw[if_neg z] at hu;have em:(max t.most u:Nat)=t.most:=by have:=g4.wf.used;omega
      rw[em,hu];exact⟨g4.head,.refl _ _,rfl⟩
    ·rintro _ S ⟨r5,m5,s5⟩;obtain⟨ad,ha,b4⟩:=j.addr (by omega);have bd:¬F ad.block:=b1 ad ha;have A:∀b,(b=d\/x.fp b)->b≠ad.block:=λb j e=>bd ((W _).2 (e▸j));have T:ad.block≠d:=λe=>A d (.inl rfl) e.symm;have U:=j.row ha;rw[a] at U;have bl:lT H4 ad 512 (.agg (gk b).toArray):=nq U (m4.same _ b4 T);have dB:H4.size=H0.size:=s4;have B:lT S ad 512 (.agg (gk b).toArray):=nq bl (m5.same _ (by omega) T);have b5:¬l.fp d:=λj=>bb (.inr ⟨l,O,j⟩);have r:aX S x t.files:=g4.files.keep λb j hl=>m5.same b hl λe=>bb (e▸j);have m:=(r.ent i f l v hg).2;refine⟨λH'=>aj H' l.p C0 #[l.now.v,l.syn.v,l.log.v]/\lT H' ad 512 (.agg (gk b).toArray),⟨m.row,B⟩,?_⟩;refine⟨l.log,λH' hG=>by rw[bk];exact hG.1.cell rfl,?_⟩;refine r5.ld (c:=ab .i64) (i:=5) (x:=t.next) rfl ?_;refine⟨by omega,?_⟩;rw[ha];refine⟨(gk b).toArray,λH' hG=>hG.2,?_⟩;refine AP (by simp[gk,a]) ?_;have dD:=Dk.ki hf;refine az.Gu (E:=w5) Lg (x:=⟨t.next,pg,⟨b,a⟩⟩) m.log (by simp[w5]) (by decide) (by omega) (by omega) _ (λH8 s8 m8=>?_) λs9 H9 o9 g9 _=>?_
     ·exact⟨m.row.ext m8,nq B (m8.same _ (by omega) id)⟩
     ·have b6:∀b,ah l.log b->b≠l.p:=λb j e=>by
       obtain⟨c,q⟩:=m.log.obj b j;rw[e] at q;exact absurd (aG m.row q) (by decide)
      have bn:∀b,ah l.now b->b≠l.p:=λb j e=>by
       obtain⟨c,q⟩:=m.now.obj b j;rw[e] at q;exact absurd (aG m.row q) (by decide)
      have bs:∀b,ah l.syn b->b≠l.p:=λb j e=>by
       obtain⟨c,q⟩:=m.syn.obj b j;rw[e] at q;exact absurd (aG m.row q) (by decide)
      have b7:∀b,ah l.log b->¬ah l.now b:=m.log.apart m.now (by decide);have b9:∀b,ah l.log b->¬ah l.syn b:=m.log.apart m.syn (by decide);have cB:=m.now.lt;have c0:=m.syn.lt;have c3:=m.log.lt;have lp:l.p<S.size:=aA m.row;have F9:aj H9 l.p C0 #[l.now.v,l.syn.v,l.log.v]:=m.row.mod g9.1 (λj=>b6 _ j rfl);simp only[al];refine F9.st (i:=2) (by simp) (by rfl) λC af m10 dT=>?_;have bx:ad.block≠l.p:=λe=>A _ (.inr (.inr ⟨l,O,.inl rfl⟩)) e.symm;have bA:¬ah l.log ad.block:=λj=>A _ (.inr (.inr ⟨l,O,.inr (.inr (.inr j))⟩)) rfl;have an:lT C ad 512 (.agg (gk b).toArray):=nq B ((m10.same _ (by have:=g9.1.size;omega) bx).trans (g9.1.same _ (by omega) bA));refine af.ld (c:=ak) (i:=0) (x:=l.now) rfl ?_;refine⟨by omega,?_⟩;refine⟨(gk b).toArray,an,?_⟩;have D:az tZ uL C l.now f.aq:=m.now.keep λb j hl=>(m10.same b (by have:=g9.1.size;omega) (bn b j)).trans (g9.1.same b hl λN=>b7 b N j);have G:az tZ uL C l.syn f.synced:=m.syn.keep λb j hl=>(m10.same b (by have:=g9.1.size;omega) (bs b j)).trans (g9.1.same b hl λN=>b9 b N j);have bB:∀b,ah s9 b->b≠l.p:=λb j e=>by
       obtain⟨c,q⟩:=o9.obj b j;rw[e] at q;exact absurd (aG F9 q) (by decide)
      have log10:az w5 qZ C s9 (f.log++[⟨t.next,pg,⟨b,a⟩⟩]):=o9.keep λb j hl=>m10.same b hl (bB b j);refine EE (no:=t.next) (b:=⟨b,a⟩) D (by omega) (by omega) λI cb bC g11=>?_;have c4:l.p<C.size:=aA af;have bD:aj cb l.p C0 #[l.now.v,l.syn.v,s9.v]:=af.mod g11.1 (λj=>bn _ j rfl);refine bD.st (i:=0) (by simp) (by rfl) λa1 ck m12 ea=>?_;have bM:∀b,ah I b->b≠l.p:=λb j e=>by
       obtain⟨c,q⟩:=bC.obj b j;rw[e] at q;exact absurd (aG bD q) (by decide)
      have cm:cD a1 ⟨l.p,I,l.syn,s9⟩ {f with log:=f.log++[⟨t.next,pg,⟨b,a⟩⟩]}:=by
       have P:=G.lt;have b0:=log10.lt;refine⟨ck,?_,?_,?_,?_⟩
       ·have:=bC.keep (H':=a1) λb j hl=>m12.same b hl (bM b j);have e:({f with log:=f.log++[⟨t.next,pg,⟨b,a⟩⟩]}:Fl).aq=dP f.aq ⟨t.next,pg,⟨b,a⟩⟩:=by simp[Fl.aq]
        rw[e];exact this
       ·exact G.keep λb j hl=>(m12.same b (by have:=g11.1.size;omega) (bs b j)).trans (g11.1.same b hl λN=>m.apart b N j)
       ·refine log10.keep λb j hl=>(m12.same b (by have:=g11.1.size;omega) (bB b j)).trans (g11.1.same b hl λN=>?_);exact(log10.apart D (by decide)) b j N
       ·intro b j bN;rcases g11.2 b j with q|q
        ·exact m.apart b q bN
        ·have:=P b bN;omega
      have J:Mod l.fp S a1:=by
       have z1:=g9.1.size;have z2:=g11.1.size;refine⟨by omega,λb j hn=>?_⟩;have n1:b≠l.p:=λe=>hn (.inl e);have n2:¬ah l.now b:=λe=>hn (.inr (.inl e));have n3:¬ah l.log b:=λe=>hn (.inr (.inr (.inr e)));exact(m12.same b (by omega) n1).trans ((g11.1.same b (by omega) n2).trans ((m10.same b (by omega) n1).trans (g9.1.same b j n3)))
      have L:=r5.mod J b5;refine L.ld (c:=ab .i64) (i:=5) (x:=t.next) rfl ?_;refine L.st (i:=5) (by simp[fm]) (by rfl) λQ cx m13 eb=>?_;obtain⟨fa,fb⟩:=r.set v hg (f':={f with log:=f.log++[⟨t.next,pg,⟨b,a⟩⟩]}) (g':=⟨l.p,I,l.syn,s9⟩) rfl rfl cm J (by
       have z1:=g9.1.size;rintro b (e|j|j|j)
       ·exact .inl (.inl e)
       ·rcases g11.2 b j with q|q
        ·exact .inl (.inr (.inl q))
        ·right;omega
       ·exact .inl (.inr (.inr (.inl j)))
       ·exact(g9.2 b j).imp (λq=>.inr (.inr (.inr q))) id)
      have p:(t.fW i ⟨t.next,pg,⟨b,a⟩⟩).used=u:=by
       have h1:=Dk.jg (s:=t) (g:=λf=>{f with log:=f.log++[⟨t.next,pg,⟨b,a⟩⟩]}) v;have h2:({f with log:=f.log++[⟨t.next,pg,⟨b,a⟩⟩]}:Fl).aq.length=max f.aq.length (pg+1):=by
        have e:({f with log:=f.log++[⟨t.next,pg,⟨b,a⟩⟩]}:Fl).aq=dP f.aq ⟨t.next,pg,⟨b,a⟩⟩:=by simp[Fl.aq]
        rw[e,da]
       have h3:(t.fW i ⟨t.next,pg,⟨b,a⟩⟩).used=(t.G0 i (λf=>{f with log:=f.log++[⟨t.next,pg,⟨b,a⟩⟩]})).used:=rfl;rw[h3];split at hu<;>omega
      dsimp only at M;rw[p] at M;have bO:¬DG.fp {x with gs:=x.gs.set i ⟨l.p,I,l.syn,s9⟩} d:=by
       intro j;exact dj.lV L fa j
      have V:=fa.keep (H':=Q) λb j hl=>m13.same b hl λe=>bO (e▸j);have gg:dj {x with gs:=x.gs.set i ⟨l.p,I,l.syn,s9⟩} R kp Q d ((t.fW i ⟨t.next,pg,⟨b,a⟩⟩).jb (max t.most u)):=by
       refine⟨?_,g4.crash,?_,?_⟩
       ·have e:((t.fW i ⟨t.next,pg,⟨b,a⟩⟩).jb (max t.most u)).used=u:=p;rw[e];exact cx
       ·rw[<-aZ v (g:=λf=>{f with log:=f.log++[⟨t.next,pg,⟨b,a⟩⟩]})] at V;exact V
       ·refine g4.wf.modify (g:=λf=>{f with log:=f.log++[⟨t.next,pg,⟨b,a⟩⟩]}) v rfl rfl ?_ ?_ rfl rfl rfl
        ·have e:((t.fW i ⟨t.next,pg,⟨b,a⟩⟩).jb (max t.most u)).used=u:=p;rw[e];exact Nat.le_max_right _ _
        ·show max t.most u<=t.quota;split at hu<;>omega
      have cy:Mod F H0 Q:=((m4.trans m5).mono λb _ e=>(W b).2 (.inl e)).trans ((J.mono λb _ e=>(W b).2 (.inr (.inr ⟨l,O,e⟩))).trans (m13.mono λb _ e=>(W b).2 (.inl e)));obtain⟨F',q1,q2⟩:=gg.out (x:=x) (F:=F) (H:=H0) W cy (λb j=>(fb b j).imp id (λq=>by omega));exact M F' Q q1 q2
end Go.Proofs.YtmkbhnholcaghaaGreatDoor
