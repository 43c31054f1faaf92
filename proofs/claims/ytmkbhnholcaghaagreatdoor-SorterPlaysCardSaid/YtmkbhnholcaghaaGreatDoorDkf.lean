/-
 The disk: Write and Read.
-/
import Derived.Test.YtmkbhnholcaghaaGreatDoorDke
open Bool renaming false_eq_true->PZ
open Go.Instr renaming fill->QL
open Go.IntKind renaming i64->N6
open Go.Proofs.Tryz renaming prog->N5
open Go.Value renaming int->On
namespace Go.Proofs.YtmkbhnholcaghaaGreatDoor
open Go.MapKept
def eH (b:List UInt8):List Int:=b.map λx=>(x.toNat:Int)
abbrev bL (H:aa)(s:Sl)(b:List UInt8):Prop:=Ints .u8 H s (eH b)
theorem gv (b:List UInt8):(eH b).map (On .u8)=fZ b:=by simp[eH,fZ]
theorem bL.n {H:aa}{s:Sl}{b:List UInt8}(h:bL H s b):s.n=b.length:=by have:=h.len;simpa[eH] using this
theorem bL.cells {H:aa}{s:Sl}{b:List UInt8}(h:bL H s b):Reads H s.a (fZ b):=by rw[<-gv];exact h.reads
theorem bL.row {H:aa}{s:Sl}{b:List UInt8}{ad:Addr}(h:bL H s b)(c:s.a=some ad):lM H ad b.length (.agg (fZ b).toArray):=by
 refine⟨_,rfl,by simp[fZ],λi hi=>?_⟩;have d:(fZ b)[i]?=some ((fZ b)[i]'(by simpa[fZ] using hi)):=List.getElem?_eq_getElem _;obtain⟨e,a,f⟩:=h.cells _ _ d;rw[c] at a;cases a;rw[f];simp
theorem bL.keep {H H':aa}{s:Sl}{b:List UInt8}(h:bL H s b)(k:∀ad,s.a=some ad->ad.block<H.size->H'[ad.block]?=H[ad.block]?):bL H' s b:=by
 refine⟨h.len,λi v e=>?_⟩;obtain⟨ad,c,d⟩:=h.reads i v e;have a:=jC d;rw[dz] at a;exact⟨ad,c,(gI (by rw[dz];exact k ad c a)).trans d⟩
theorem bL.addr {H:aa}{s:Sl}{b:List UInt8}(h:bL H s b)(a:0<b.length):∃ad,s.a=some ad/\ad.block<H.size:=by
 obtain⟨ad,c,d⟩:=h.reads.at (i:=0) (by simp[eH];exact a);have:=jC d;rw[dz] at this;exact⟨ad,c,this⟩
theorem mY {H H':aa}{ad:Addr}{n:Nat}{v:Value}(h:lM H ad n v)(k:H'[ad.block]?=H[ad.block]?):lM H' ad n v:=by
 obtain⟨cs,e,a,b⟩:=h;exact⟨cs,e,a,λi hi=>(gI (by rw[dz];exact k)).trans (b i hi)⟩
theorem Ac (parts:List (Nat×Value)):N5.built qR parts=QL (λi=>(#[(0,1),(1,1),(2,512)]:Array (Nat×Nat))[i]?) (zc N5 qR) parts:=by kernel_rfl
theorem j3:(zc N5 qR).size=514:=by kernel_rfl
theorem C3 {no page:Int}{cs z:Array Value}(c:z.size=514)(a:cs.size=512):
  QL (λi=>(#[(0,1),(1,1),(2,512)]:Array (Nat×Nat))[i]?) z [(0,(.int .i64 no)),(1,(.int .i64 page)),(2,(.agg cs))]=some (#[.int .i64 no,.int .i64 page]++cs):=by
 have c1:(On .i64 no).cells=#[.int .i64 no]:=rfl;have c2:(On .i64 page).cells=#[.int .i64 page]:=rfl;have b:(Value.agg cs).cells=cs:=rfl;rw[mU (off:=0) (n:=1) (v:=.int .i64 no) rfl rfl (by omega),mU (off:=1) (n:=1) (v:=.int .i64 page) rfl rfl (by simp[c1];omega),mU (off:=2) (n:=512) (v:=.agg cs) rfl a (by simp[c1,c2];omega)];simp only[QL,c1,c2,b];refine congrArg some (Array.ext' ?_);simp;omega
theorem AB {no page:Int}{cs:Array Value}{K:Array Value->Prop}(a:cs.size=512)(b:K (#[.int .i64 no,.int .i64 page]++cs)):
  rN jQ N5 (Instr.build qR #[(0,(.int .i64 no)),(1,(.int .i64 page)),(2,(.agg cs))]) K:=by
 refine⟨_,λw=>?_,b⟩;refine run_build w _ _ _ ?_;rw[Ac];exact C3 j3 a
set_option maxHeartbeats 1000000 in
theorem FJ {F:Nat->Prop}{d:Nat}{s:Dk}{H:aa}{n:ByteArray}{page:Int}{p3:Sl}{b:List UInt8}{K:Int->aa->Prop}(h:bo F H d s)(j:bL H p3 b)(b2:∀ad,p3.a=some ad->¬F ad.block)(b3:s.aB<68719476736)
  (M:∀F' H',bo F' H' d (s.write n page b).1->Step F F' H H'->K (s.write n page b).2 H'):Kh.sp (aE d) n page p3 H K:=by
 have h0:=h;obtain⟨x,cin,kp,g,W⟩:=h;refine Kh.of ?_;unfold Kh.vc;simp only[al];have stay:∀e:Int,s.write n page b=(s,e)->K e H:=by
  intro e he;have:=M F H (by rw[he];exact h0) (.refl _ _);rw[he] at this;exact this
 refine lK g.head (down:=s.down) rfl ?_;cases hd:s.down with
 |true=>exact stay 4 (by unfold Dk.write;rw[hd];rfl)
 |false=>
   refine aC rfl ?_;have dc:=j.n;refine ah (λX=>stay 2 ?_) (λX=>?_)
   ·have:b.length≠512:=by simp at X;omega
    unfold Dk.write;rw[hd];simp[this]
   have a:b.length=512:=by simp at X;omega
   refine od g (λa6=>by rw[hd] at a6;cases a6) (λ_ hN=>?_) (λi f l _ hi hf dk hg Y=>?_)
   ·refine⟨λ_ _=>False,stay 11 ?_,λ_ _ h=>h.elim⟩;unfold Dk.write;rw[hd];simp[a,hN]
   have o:s.file i=f:=Dk.du hf;have cB:=Y.now.n (by decide);have w1:=g.wf.used;have w2:=g.wf.most;have w3:=g.wf.quota;have dm:=Dk.eQ hf;have a7:page<0\/page>f.aq.length->s.write n page b=(s,12):=by
    intro w;unfold Dk.write;rw[hd];simp only[PZ,if_false,a,dif_pos,hi,o];rw[if_pos w]
   have e5:¬(page<0\/page>f.aq.length)->page=f.aq.length->s.used=s.quota->s.write n page b=(s,5):=by
    intro w h1 h2;unfold Dk.write;rw[hd];simp only[PZ,if_false,a,dif_pos,hi,o];rw[if_neg w,if_pos ⟨h1,by omega⟩]
   refine⟨λ_ H'=>H'=H/\¬(page<0\/page>f.aq.length)/\¬(page=f.aq.length/\s.used=s.quota),?_,?_⟩
   ·refine aC rfl ?_;refine ah (λw=>?_) (λw=>?_)
    ·exact aP w (stay 12 (a7 (.inl (by simpa using w))))
    ·have dn:¬page<0:=by simpa using w
     simp only[al];refine Y.row.ld (c:=ak) (i:=0) (x:=l.now) rfl ?_;refine ah (λw=>?_) (λw=>?_)
     ·exact stay 12 (a7 (.inr (by simp at w;omega)))
     ·have y:¬(page<0\/page>f.aq.length):=by simp at w;omega
      refine Y.row.ld (c:=ak) (i:=0) (x:=l.now) rfl ?_;refine ah (λhe=>?_) (λhe=>?_)
      ·have z:page=f.aq.length:=by simp at he;omega
       refine g.head.ld (c:=ab .i64) (i:=1) (x:=s.used) rfl ?_;refine g.head.ld (c:=ab .i64) (i:=3) (x:=s.quota) rfl ?_;refine ah (λhq=>?_) (λhq=>?_)
       ·exact stay 5 (e5 y z (by simp at hq;omega))
       ·exact⟨by trivial,y,λN=>by simp at hq;omega⟩
      ·exact⟨by trivial,y,λN=>by simp at he;omega⟩
   ·rintro _ H0 ⟨rfl,y,dA⟩;obtain⟨pg,rfl⟩:∃k:Nat,page=k:=⟨page.toNat,by omega⟩;have dB:pg<=f.aq.length:=by omega
    have hr:s.write n pg b=s.step λt=>(t.fS i ⟨t.next,pg,⟨b,a⟩⟩).iY (max t.most (t.fS i ⟨t.next,pg,⟨b,a⟩⟩).used):=by
     unfold Dk.write;rw[hd];simp only[PZ,if_false,a,dif_pos,hi,o];rw[if_neg y,if_neg (by omega)];rfl
    rw[hr] at M;unfold Dk.step at M;refine mR g λR H4 g4 m4 s4=>?_;refine ah (λhz=>?_) (λhz=>?_)
    ·have Z:s.change.2≠0:=by simpa using hz
     rw[if_neg Z] at M;obtain⟨F',q1,q2⟩:=g4.out (x:=x) (F:=F) (H:=H0) W (m4.mono λb _ e=>(W b).2 (.inl e)) (λb q=>.inl q);exact M F' H4 q1 q2
    have Z:s.change.2=0:=by simpa using hz
    rw[if_pos Z] at M;obtain⟨k1,k2,k3,k4⟩:=s.lX;have b4:=s.bm;generalize ht:s.change.1=t at*;have v:t.files[i]?=some f:=by rw[b4];exact hf
    have a8:=(g4.files.ent i f l v hg).2;have O:=List.mem_of_getElem? hg;have bb:=di.lO g4.head g4.files
    -- how many pages there are then
    obtain⟨u,hu⟩:∃u:Nat,u=if pg=f.aq.length then t.used+1 else t.used:=⟨_,rfl⟩
    refine⟨λ_ S=>aj S d xp (fi x.m u (max t.most u:Nat) t.quota t.ops t.next t.crash.isSome R kp t.down)/\Mod (λb=>b=d) H4 S/\S.size=H4.size,?_,?_⟩
    ·refine a8.row.ld (c:=ak) (i:=0) (x:=l.now) rfl ?_;refine ah (λhe=>?_) (λhe=>?_)
     ·have z:pg=f.aq.length:=by simp at he;omega
      rw[if_pos z] at hu;refine g4.head.ld (c:=ab .i64) (i:=1) (x:=t.used) rfl ?_;refine g4.head.st (i:=1) (by simp[fi]) (by rfl) λH6 r6 m6 s6=>?_;have eu:N6.wrap ((t.used:Int)+1)=(u:Int):=by rw[wrap64 (by omega) (by omega)];omega
      rw[eu] at r6;refine r6.ld (c:=ab .i64) (i:=2) (x:=t.most) rfl ?_;refine r6.ld (c:=ab .i64) (i:=1) (x:=u) rfl ?_;refine r6.st (i:=2) (by simp[fi]) (by rfl) λH7 r7 m7 s7=>?_;have em:(if (u:Int)>(t.most:Int) then (u:Int) else (t.most:Int))=((max t.most u:Nat):Int):=by split<;>omega
      rw[em] at r7;exact⟨r7,m6.trans m7,by omega⟩
     ·have z:pg≠f.aq.length:=by simp at he;omega
      rw[if_neg z] at hu;have em:(max t.most u:Nat)=t.most:=by have:=g4.wf.used;omega
      rw[em,hu];exact⟨g4.head,.refl _ _,rfl⟩
    ·rintro _ S ⟨r5,m5,s5⟩;obtain⟨ad,ha,b5⟩:=j.addr (by omega);have bd:¬F ad.block:=b2 ad ha;have A:∀b,(b=d\/x.fp b)->b≠ad.block:=λb j e=>bd ((W _).2 (e▸j));have T:ad.block≠d:=λe=>A d (.inl rfl) e.symm;have U:=j.row ha;rw[a] at U;have bl:lM H4 ad 512 (.agg (fZ b).toArray):=mY U (m4.same _ b5 T);have dD:H4.size=H0.size:=s4;have B:lM S ad 512 (.agg (fZ b).toArray):=mY bl (m5.same _ (by omega) T);have b6:¬l.fp d:=λj=>bb (.inr ⟨l,O,j⟩);have r:aW S x t.files:=g4.files.keep λb j hl=>m5.same b hl λe=>bb (e▸j);have m:=(r.ent i f l v hg).2;refine⟨λH'=>aj H' l.p CL #[l.now.v,l.syn.v,l.log.v]/\lM H' ad 512 (.agg (fZ b).toArray),⟨m.row,B⟩,?_⟩;refine⟨l.log,λH' hG=>by rw[bk];exact hG.1.cell rfl,?_⟩;refine r5.ld (c:=ab .i64) (i:=5) (x:=t.next) rfl ?_;refine⟨by omega,?_⟩;rw[ha];refine⟨(fZ b).toArray,λH' hG=>hG.2,?_⟩;refine AB (by simp[fZ,a]) ?_;have dT:=Dk.j6 hf;refine az.Gj (E:=wQ) K8 (x:=⟨t.next,pg,⟨b,a⟩⟩) m.log (by simp[wQ]) (by decide) (by omega) (by omega) _ (λH8 s8 m8=>?_) λs9 H9 o9 g9 _=>?_
     ·exact⟨m.row.ext m8,mY B (m8.same _ (by omega) id)⟩
     ·have b7:∀b,ag l.log b->b≠l.p:=λb j e=>by
       obtain⟨c,q⟩:=m.log.obj b j;rw[e] at q;exact absurd (aF m.row q) (by decide)
      have bn:∀b,ag l.now b->b≠l.p:=λb j e=>by
       obtain⟨c,q⟩:=m.now.obj b j;rw[e] at q;exact absurd (aF m.row q) (by decide)
      have bs:∀b,ag l.syn b->b≠l.p:=λb j e=>by
       obtain⟨c,q⟩:=m.syn.obj b j;rw[e] at q;exact absurd (aF m.row q) (by decide)
      have b9:∀b,ag l.log b->¬ag l.now b:=m.log.apart m.now (by decide);have cb:∀b,ag l.log b->¬ag l.syn b:=m.log.apart m.syn (by decide);have c0:=m.now.lt;have c3:=m.syn.lt;have c4:=m.log.lt;have lp:l.p<S.size:=aA m.row;have F9:aj H9 l.p CL #[l.now.v,l.syn.v,l.log.v]:=m.row.mod g9.1 (λj=>b7 _ j rfl);simp only[al];refine F9.st (i:=2) (by simp) (by rfl) λC af m10 ea=>?_;have bx:ad.block≠l.p:=λe=>A _ (.inr (.inr ⟨l,O,.inl rfl⟩)) e.symm;have bA:¬ag l.log ad.block:=λj=>A _ (.inr (.inr ⟨l,O,.inr (.inr (.inr j))⟩)) rfl;have an:lM C ad 512 (.agg (fZ b).toArray):=mY B ((m10.same _ (by have:=g9.1.size;omega) bx).trans (g9.1.same _ (by omega) bA));refine af.ld (c:=ak) (i:=0) (x:=l.now) rfl ?_;refine⟨by omega,?_⟩;refine⟨(fZ b).toArray,an,?_⟩;have D:az tP uA C l.now f.aq:=m.now.keep λb j hl=>(m10.same b (by have:=g9.1.size;omega) (bn b j)).trans (g9.1.same b hl λN=>b9 b N j);have G:az tP uA C l.syn f.synced:=m.syn.keep λb j hl=>(m10.same b (by have:=g9.1.size;omega) (bs b j)).trans (g9.1.same b hl λN=>cb b N j);have bB:∀b,ag s9 b->b≠l.p:=λb j e=>by
       obtain⟨c,q⟩:=o9.obj b j;rw[e] at q;exact absurd (aF F9 q) (by decide)
      have log10:az wQ qR C s9 (f.log++[⟨t.next,pg,⟨b,a⟩⟩]):=o9.keep λb j hl=>m10.same b hl (bB b j);refine Ep (no:=t.next) (b:=⟨b,a⟩) D (by omega) (by omega) λI ck bC g11=>?_;have c5:l.p<C.size:=aA af;have bD:aj ck l.p CL #[l.now.v,l.syn.v,s9.v]:=af.mod g11.1 (λj=>bn _ j rfl);refine bD.st (i:=0) (by simp) (by rfl) λa1 cm m12 eb=>?_;have bM:∀b,ag I b->b≠l.p:=λb j e=>by
       obtain⟨c,q⟩:=bC.obj b j;rw[e] at q;exact absurd (aF bD q) (by decide)
      have cx:cC a1 ⟨l.p,I,l.syn,s9⟩ {f with log:=f.log++[⟨t.next,pg,⟨b,a⟩⟩]}:=by
       have P:=G.lt;have b1:=log10.lt;refine⟨cm,?_,?_,?_,?_⟩
       ·have:=bC.keep (H':=a1) λb j hl=>m12.same b hl (bM b j);have e:({f with log:=f.log++[⟨t.next,pg,⟨b,a⟩⟩]}:Fl).aq=dN f.aq ⟨t.next,pg,⟨b,a⟩⟩:=by simp[Fl.aq]
        rw[e];exact this
       ·exact G.keep λb j hl=>(m12.same b (by have:=g11.1.size;omega) (bs b j)).trans (g11.1.same b hl λN=>m.apart b N j)
       ·refine log10.keep λb j hl=>(m12.same b (by have:=g11.1.size;omega) (bB b j)).trans (g11.1.same b hl λN=>?_);exact(log10.apart D (by decide)) b j N
       ·intro b j bO;rcases g11.2 b j with q|q
        ·exact m.apart b q bO
        ·have:=P b bO;omega
      have J:Mod l.fp S a1:=by
       have z1:=g9.1.size;have z2:=g11.1.size;refine⟨by omega,λb j hn=>?_⟩;have n1:b≠l.p:=λe=>hn (.inl e);have n2:¬ag l.now b:=λe=>hn (.inr (.inl e));have n3:¬ag l.log b:=λe=>hn (.inr (.inr (.inr e)));exact(m12.same b (by omega) n1).trans ((g11.1.same b (by omega) n2).trans ((m10.same b (by omega) n1).trans (g9.1.same b j n3)))
      have L:=r5.mod J b6;refine L.ld (c:=ab .i64) (i:=5) (x:=t.next) rfl ?_;refine L.st (i:=5) (by simp[fi]) (by rfl) λQ cy m13 ec=>?_;obtain⟨fa,fb⟩:=r.set v hg (f':={f with log:=f.log++[⟨t.next,pg,⟨b,a⟩⟩]}) (g':=⟨l.p,I,l.syn,s9⟩) rfl rfl cx J (by
       have z1:=g9.1.size;rintro b (e|j|j|j)
       ·exact .inl (.inl e)
       ·rcases g11.2 b j with q|q
        ·exact .inl (.inr (.inl q))
        ·right;omega
       ·exact .inl (.inr (.inr (.inl j)))
       ·exact(g9.2 b j).imp (λq=>.inr (.inr (.inr q))) id)
      have p:(t.fS i ⟨t.next,pg,⟨b,a⟩⟩).used=u:=by
       have h1:=Dk.jc (s:=t) (g:=λf=>{f with log:=f.log++[⟨t.next,pg,⟨b,a⟩⟩]}) v;have h2:({f with log:=f.log++[⟨t.next,pg,⟨b,a⟩⟩]}:Fl).aq.length=max f.aq.length (pg+1):=by
        have e:({f with log:=f.log++[⟨t.next,pg,⟨b,a⟩⟩]}:Fl).aq=dN f.aq ⟨t.next,pg,⟨b,a⟩⟩:=by simp[Fl.aq]
        rw[e,c9]
       have h3:(t.fS i ⟨t.next,pg,⟨b,a⟩⟩).used=(t.GS i (λf=>{f with log:=f.log++[⟨t.next,pg,⟨b,a⟩⟩]})).used:=rfl;rw[h3];split at hu<;>omega
      dsimp only at M;rw[p] at M;have b0:¬DG.fp {x with gs:=x.gs.set i ⟨l.p,I,l.syn,s9⟩} d:=by
       intro j;exact di.lO L fa j
      have V:=fa.keep (H':=Q) λb j hl=>m13.same b hl λe=>b0 (e▸j);have gg:di {x with gs:=x.gs.set i ⟨l.p,I,l.syn,s9⟩} R kp Q d ((t.fS i ⟨t.next,pg,⟨b,a⟩⟩).iY (max t.most u)):=by
       refine⟨?_,g4.crash,?_,?_⟩
       ·have e:((t.fS i ⟨t.next,pg,⟨b,a⟩⟩).iY (max t.most u)).used=u:=p;rw[e];exact cy
       ·rw[<-aZ v (g:=λf=>{f with log:=f.log++[⟨t.next,pg,⟨b,a⟩⟩]})] at V;exact V
       ·refine g4.wf.modify (g:=λf=>{f with log:=f.log++[⟨t.next,pg,⟨b,a⟩⟩]}) v rfl rfl ?_ ?_ rfl rfl rfl
        ·have e:((t.fS i ⟨t.next,pg,⟨b,a⟩⟩).iY (max t.most u)).used=u:=p;rw[e];exact Nat.le_max_right _ _
        ·show max t.most u<=t.quota;split at hu<;>omega
      have cz:Mod F H0 Q:=((m4.trans m5).mono λb _ e=>(W b).2 (.inl e)).trans ((J.mono λb _ e=>(W b).2 (.inr (.inr ⟨l,O,e⟩))).trans (m13.mono λb _ e=>(W b).2 (.inl e)));obtain⟨F',q1,q2⟩:=gg.out (x:=x) (F:=F) (H:=H0) W cz (λb j=>(fb b j).imp id (λq=>by omega));exact M F' Q q1 q2
end Go.Proofs.YtmkbhnholcaghaaGreatDoor
