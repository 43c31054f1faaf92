/-
 The disk: Write and Read.
-/
import Derived.Test.YtkehfflpbpdokaaGreatDoorDke
open Bool renaming false_eq_true->TO
open Go.Instr renaming fill->Ts
open Go.IntKind renaming i64->Qe
open Go.Proofs.Tryz renaming prog->Qf
open Go.Value renaming int->Ql
namespace Go.Proofs.YtkehfflpbpdokaaGreatDoor
open Go.MapKept
def fm (b:List UInt8):List Int:=b.map λx=>(x.toNat:Int)
abbrev dA (H:aa)(s:Sl)(b:List UInt8):Prop:=Ints .u8 H s (fm b)
theorem j8 (b:List UInt8):(fm b).map (Ql .u8)=jo b:=by simp[fm,jo]
theorem dA.n {H:aa}{s:Sl}{b:List UInt8}(h:dA H s b):s.n=b.length:=by have:=h.len;simpa[fm] using this
theorem dA.cells {H:aa}{s:Sl}{b:List UInt8}(h:dA H s b):Reads H s.a (jo b):=by rw[<-j8];exact h.reads
theorem dA.row {H:aa}{s:Sl}{b:List UInt8}{ad:Addr}(h:dA H s b)(c:s.a=some ad):nJ H ad b.length (.agg (jo b).toArray):=by
 refine⟨_,rfl,by simp[jo],λi hi=>?_⟩;have d:(jo b)[i]?=some ((jo b)[i]'(by simpa[jo] using hi)):=List.getElem?_eq_getElem _;obtain⟨e,a,f⟩:=h.cells _ _ d;rw[c] at a;cases a;rw[f];simp
theorem dA.aE {H H':aa}{s:Sl}{b:List UInt8}(h:dA H s b)(k:∀ad,s.a=some ad->ad.block<H.size->H'[ad.block]?=H[ad.block]?):dA H' s b:=by
 refine⟨h.len,λi v e=>?_⟩;obtain⟨ad,c,d⟩:=h.reads i v e;have a:=kq d;rw[cj] at a;exact⟨ad,c,(eX (by rw[cj];exact k ad c a)).trans d⟩
theorem dA.addr {H:aa}{s:Sl}{b:List UInt8}(h:dA H s b)(a:0<b.length):∃ad,s.a=some ad/\ad.block<H.size:=by
 obtain⟨ad,c,d⟩:=h.reads.at (i:=0) (by simp[fm];exact a);have:=kq d;rw[cj] at this;exact⟨ad,c,this⟩
theorem np {H H':aa}{ad:Addr}{n:Nat}{v:Value}(h:nJ H ad n v)(k:H'[ad.block]?=H[ad.block]?):nJ H' ad n v:=by
 obtain⟨cs,e,a,b⟩:=h;exact⟨cs,e,a,λi hi=>(eX (by rw[cj];exact k)).trans (b i hi)⟩
theorem By (parts:List (Nat×Value)):Qf.built JB parts=Ts (λi=>(#[(0,1),(1,1),(2,512)]:Array (Nat×Nat))[i]?) (zc Qf JB) parts:=by kernel_rfl
theorem xW:(zc Qf JB).size=514:=by kernel_rfl
theorem D4 {no ag:Int}{cs z:Array Value}(hz:z.size=514)(a:cs.size=512):
  Ts (λi=>(#[(0,1),(1,1),(2,512)]:Array (Nat×Nat))[i]?) z [(0,(.int .i64 no)),(1,(.int .i64 ag)),(2,(.agg cs))]=some (#[.int .i64 no,.int .i64 ag]++cs):=by
 have c1:(Ql .i64 no).cells=#[.int .i64 no]:=rfl;have c2:(Ql .i64 ag).cells=#[.int .i64 ag]:=rfl;have b:(Value.agg cs).cells=cs:=rfl;rw[nG (off:=0) (n:=1) (v:=.int .i64 no) rfl rfl (by omega),nG (off:=1) (n:=1) (v:=.int .i64 ag) rfl rfl (by simp[c1];omega),nG (off:=2) (n:=512) (v:=.agg cs) rfl a (by simp[c1,c2];omega)];simp only[Ts,c1,c2,b];refine congrArg some (Array.ext' ?_);simp;omega
theorem Bp {no ag:Int}{cs:Array Value}{K:Array Value->Prop}(a:cs.size=512)(b:K (#[.int .i64 no,.int .i64 ag]++cs)):
  An rU Qf (Instr.build JB #[(0,(.int .i64 no)),(1,(.int .i64 ag)),(2,(.agg cs))]) K:=by
 refine⟨_,λw=>?_,b⟩;refine run_build w _ _ _ ?_;rw[By];exact D4 xW a
set_option maxHeartbeats 1000000 in
theorem Hl {F:Nat->Prop}{d:Nat}{s:Dk}{H:aa}{n:ByteArray}{ag:Int}{p3:Sl}{b:List UInt8}{K:Int->aa->Prop}(h:cC F H d s)(j:dA H p3 b)(b6:∀ad,p3.a=some ad->¬F ad.block)(b7:s.bt<68719476736)
  (N:∀F' H',cC F' H' d (s.write n ag b).1->Step F F' H H'->K (s.write n ag b).2 H'):Lf.sp (av d) n ag p3 H K:=by
 have h0:=h;obtain⟨x,cin,kp,g,X⟩:=h;refine Lf.of ?_;unfold Lf.vc;simp only[aw];have stay:∀e:Int,s.write n ag b=(s,e)->K e H:=by
  intro e he;have:=N F H (by rw[he];exact h0) (.refl _ _);rw[he] at this;exact this
 refine tU g.head (down:=s.down) rfl ?_;cases hd:s.down with
 |true=>exact stay 4 (by unfold Dk.write;rw[hd];rfl)
 |false=>
   refine az rfl ?_;have dT:=j.n;refine ao (λY=>stay 2 ?_) (λY=>?_)
   ·have:b.length≠512:=by simp at Y;omega
    unfold Dk.write;rw[hd];simp[this]
   have a:b.length=512:=by simp at Y;omega
   refine sj g (λa7=>by rw[hd] at a7;cases a7) (λ_ hN=>?_) (λi f l _ hi hf ea hg Z=>?_)
   ·refine⟨λ_ _=>False,stay 11 ?_,λ_ _ h=>h.elim⟩;unfold Dk.write;rw[hd];simp[a,hN]
   have o:s.file i=f:=Dk.iX hf;have c7:=Z.now.n (by decide);have w1:=g.wf.used;have w2:=g.wf.most;have w3:=g.wf.quota;have eb:=Dk.zp hf;have a8:ag<0\/ag>f.aG.length->s.write n ag b=(s,12):=by
    intro y;unfold Dk.write;rw[hd];simp only[TO,if_false,a,dif_pos,hi,o];rw[if_pos y]
   have e5:¬(ag<0\/ag>f.aG.length)->ag=f.aG.length->s.used=s.quota->s.write n ag b=(s,5):=by
    intro y h1 h2;unfold Dk.write;rw[hd];simp only[TO,if_false,a,dif_pos,hi,o];rw[if_neg y,if_pos ⟨h1,by omega⟩]
   refine⟨λ_ H'=>H'=H/\¬(ag<0\/ag>f.aG.length)/\¬(ag=f.aG.length/\s.used=s.quota),?_,?_⟩
   ·refine az rfl ?_;refine ao (λy=>?_) (λy=>?_)
    ·exact aT y (stay 12 (a8 (.inl (by simpa using y))))
    ·have ec:¬ag<0:=by simpa using y
     simp only[aw];refine Z.row.ld (c:=au) (i:=0) (x:=l.now) rfl ?_;refine ao (λy=>?_) (λy=>?_)
     ·exact stay 12 (a8 (.inr (by simp at y;omega)))
     ·have z:¬(ag<0\/ag>f.aG.length):=by simp at y;omega
      refine Z.row.ld (c:=au) (i:=0) (x:=l.now) rfl ?_;refine ao (λhe=>?_) (λhe=>?_)
      ·have A:ag=f.aG.length:=by simp at he;omega
       refine g.head.ld (c:=ai .i64) (i:=1) (x:=s.used) rfl ?_;refine g.head.ld (c:=ai .i64) (i:=3) (x:=s.quota) rfl ?_;refine ao (λhq=>?_) (λhq=>?_)
       ·exact stay 5 (e5 z A (by simp at hq;omega))
       ·exact⟨by trivial,z,λO=>by simp at hq;omega⟩
      ·exact⟨by trivial,z,λO=>by simp at he;omega⟩
   ·rintro _ H0 ⟨rfl,z,ed⟩;obtain⟨pg,rfl⟩:∃k:Nat,ag=k:=⟨ag.toNat,by omega⟩;have ee:pg<=f.aG.length:=by omega
    have hr:s.write n pg b=s.step λt=>(t.tj i ⟨t.next,pg,⟨b,a⟩⟩).ni (max t.most (t.tj i ⟨t.next,pg,⟨b,a⟩⟩).used):=by
     unfold Dk.write;rw[hd];simp only[TO,if_false,a,dif_pos,hi,o];rw[if_neg z,if_neg (by omega)];rfl
    rw[hr] at N;unfold Dk.step at N;refine ql g λS H4 g4 m4 s4=>?_;refine ao (λhz=>?_) (λhz=>?_)
    ·have ae:s.change.2≠0:=by simpa using hz
     rw[if_neg ae] at N;obtain⟨F',q1,q2⟩:=g4.out (x:=x) (F:=F) (H:=H0) X (m4.mono λb _ e=>(X b).2 (.inl e)) (λb q=>.inl q);exact N F' H4 q1 q2
    have ae:s.change.2=0:=by simpa using hz
    rw[if_pos ae] at N;obtain⟨k1,k2,k3,k4⟩:=s.yM;have b8:=s.fC;generalize ht:s.change.1=t at*;have w:t.files[i]?=some f:=by rw[b8];exact hf
    have ba:=(g4.files.ent i f l w hg).2;have P:=List.mem_of_getElem? hg;have bg:=gL.uL g4.head g4.files
    -- how many pages there are then
    obtain⟨u,hu⟩:∃u:Nat,u=if pg=f.aG.length then t.used+1 else t.used:=⟨_,rfl⟩
    refine⟨λ_ T=>ab T d Ms (tC x.m u (max t.most u:Nat) t.quota t.ops t.next t.crash.isSome S kp t.down)/\Mod (λb=>b=d) H4 T/\T.size=H4.size,?_,?_⟩
    ·refine ba.row.ld (c:=au) (i:=0) (x:=l.now) rfl ?_;refine ao (λhe=>?_) (λhe=>?_)
     ·have A:pg=f.aG.length:=by simp at he;omega
      rw[if_pos A] at hu;refine g4.head.ld (c:=ai .i64) (i:=1) (x:=t.used) rfl ?_;refine g4.head.st (i:=1) (by simp[tC]) (by rfl) λH6 r6 m6 s6=>?_;have eu:Qe.wrap ((t.used:Int)+1)=(u:Int):=by rw[wrap64 (by omega) (by omega)];omega
      rw[eu] at r6;refine r6.ld (c:=ai .i64) (i:=2) (x:=t.most) rfl ?_;refine r6.ld (c:=ai .i64) (i:=1) (x:=u) rfl ?_;refine r6.st (i:=2) (by simp[tC]) (by rfl) λH7 r7 m7 s7=>?_;have em:(if (u:Int)>(t.most:Int) then (u:Int) else (t.most:Int))=((max t.most u:Nat):Int):=by split<;>omega
      rw[em] at r7;exact⟨r7,m6.trans m7,by omega⟩
     ·have A:pg≠f.aG.length:=by simp at he;omega
      rw[if_neg A] at hu;have em:(max t.most u:Nat)=t.most:=by have:=g4.wf.used;omega
      rw[em,hu];exact⟨g4.head,.refl _ _,rfl⟩
    ·rintro _ T ⟨r5,m5,s5⟩;obtain⟨ad,ha,b9⟩:=j.addr (by omega);have bl:¬F ad.block:=b6 ad ha;have B:∀b,(b=d\/x.fp b)->b≠ad.block:=λb j e=>bl ((X _).2 (e▸j));have U:ad.block≠d:=λe=>B d (.inl rfl) e.symm;have V:=j.row ha;rw[a] at V;have bs:nJ H4 ad 512 (.agg (jo b).toArray):=np V (m4.same _ b9 U);have eg:H4.size=H0.size:=s4;have C:nJ T ad 512 (.agg (jo b).toArray):=np bs (m5.same _ (by omega) U);have cm:¬l.fp d:=λj=>bg (.inr ⟨l,P,j⟩);have v:bu T x t.files:=g4.files.aE λb j p=>m5.same b p λe=>bg (e▸j);have m:=(v.ent i f l w hg).2;refine⟨λH'=>ab H' l.p MM #[l.now.v,l.syn.v,l.log.v]/\nJ H' ad 512 (.agg (jo b).toArray),⟨m.row,C⟩,?_⟩;refine⟨l.log,λH' hG=>by rw[bJ];exact hG.1.cell rfl,?_⟩;refine r5.ld (c:=ai .i64) (i:=5) (x:=t.next) rfl ?_;refine⟨by omega,?_⟩;rw[ha];refine⟨(jo b).toArray,λH' hG=>hG.2,?_⟩;refine Bp (by simp[jo,a]) ?_;have ei:=Dk.Mh hf;refine dm.GM (E:=NL) Ng (x:=⟨t.next,pg,⟨b,a⟩⟩) m.log (by simp[NL]) (by decide) (by omega) (by omega) _ (λH8 s8 m8=>?_) λs9 H9 o9 g9 _=>?_
     ·exact⟨m.row.ext m8,np C (m8.same _ (by omega) id)⟩
     ·have cA:∀b,al l.log b->b≠l.p:=λb j e=>by
       obtain⟨c,q⟩:=m.log.obj b j;rw[e] at q;exact absurd (aR m.row q) (by decide)
      have bA:∀b,al l.now b->b≠l.p:=λb j e=>by
       obtain⟨c,q⟩:=m.now.obj b j;rw[e] at q;exact absurd (aR m.row q) (by decide)
      have bB:∀b,al l.syn b->b≠l.p:=λb j e=>by
       obtain⟨c,q⟩:=m.syn.obj b j;rw[e] at q;exact absurd (aR m.row q) (by decide)
      have cB:∀b,al l.log b->¬al l.now b:=m.log.apart m.now (by decide);have cF:∀b,al l.log b->¬al l.syn b:=m.log.apart m.syn (by decide);have c8:=m.now.lt;have c9:=m.syn.lt;have dk:=m.log.lt;have lp:l.p<T.size:=aI m.row;have F9:ab H9 l.p MM #[l.now.v,l.syn.v,l.log.v]:=m.row.mod g9.1 (λj=>cA _ j rfl);simp only[aw];refine F9.st (i:=2) (by simp) (by rfl) λD af m10 ej=>?_;have bC:ad.block≠l.p:=λe=>B _ (.inr (.inr ⟨l,P,.inl rfl⟩)) e.symm;have bD:¬al l.log ad.block:=λj=>B _ (.inr (.inr ⟨l,P,.inr (.inr (.inr j))⟩)) rfl;have a1:nJ D ad 512 (.agg (jo b).toArray):=np C ((m10.same _ (by have:=g9.1.size;omega) bC).trans (g9.1.same _ (by omega) bD));refine af.ld (c:=au) (i:=0) (x:=l.now) rfl ?_;refine⟨by omega,?_⟩;refine⟨(jo b).toArray,a1,?_⟩;have G:dm Bi Bd D l.now f.aG:=m.now.aE λb j p=>(m10.same b (by have:=g9.1.size;omega) (bA b j)).trans (g9.1.same b p λO=>cB b O j);have I:dm Bi Bd D l.syn f.synced:=m.syn.aE λb j p=>(m10.same b (by have:=g9.1.size;omega) (bB b j)).trans (g9.1.same b p λO=>cF b O j);have bE:∀b,al s9 b->b≠l.p:=λb j e=>by
       obtain⟨c,q⟩:=o9.obj b j;rw[e] at q;exact absurd (aR F9 q) (by decide)
      have log10:dm NL JB D s9 (f.log++[⟨t.next,pg,⟨b,a⟩⟩]):=o9.aE λb j p=>m10.same b p (bE b j);refine Mc (no:=t.next) (b:=⟨b,a⟩) G (by omega) (by omega) λJ c0 bG g11=>?_;have dt:l.p<D.size:=aI af;have b0:ab c0 l.p MM #[l.now.v,l.syn.v,s9.v]:=af.mod g11.1 (λj=>bA _ j rfl);refine b0.st (i:=0) (by simp) (by rfl) λa6 c3 m12 ek=>?_;have b1:∀b,al J b->b≠l.p:=λb j e=>by
       obtain⟨c,q⟩:=bG.obj b j;rw[e] at q;exact absurd (aR b0 q) (by decide)
      have c4:dU a6 ⟨l.p,J,l.syn,s9⟩ {f with log:=f.log++[⟨t.next,pg,⟨b,a⟩⟩]}:=by
       have Q:=I.lt;have b5:=log10.lt;refine⟨c3,?_,?_,?_,?_⟩
       ·have:=bG.aE (H':=a6) λb j p=>m12.same b p (b1 b j);have e:({f with log:=f.log++[⟨t.next,pg,⟨b,a⟩⟩]}:Fl).aG=vu f.aG ⟨t.next,pg,⟨b,a⟩⟩:=by simp[Fl.aG]
        rw[e];exact this
       ·exact I.aE λb j p=>(m12.same b (by have:=g11.1.size;omega) (bB b j)).trans (g11.1.same b p λO=>m.apart b O j)
       ·refine log10.aE λb j p=>(m12.same b (by have:=g11.1.size;omega) (bE b j)).trans (g11.1.same b p λO=>?_);exact(log10.apart G (by decide)) b j O
       ·intro b j b3;rcases g11.2 b j with q|q
        ·exact m.apart b q b3
        ·have:=Q b b3;omega
      have L:Mod l.fp T a6:=by
       have z1:=g9.1.size;have z2:=g11.1.size;refine⟨by omega,λb j hn=>?_⟩;have n1:b≠l.p:=λe=>hn (.inl e);have n2:¬al l.now b:=λe=>hn (.inr (.inl e));have n3:¬al l.log b:=λe=>hn (.inr (.inr (.inr e)));exact(m12.same b (by omega) n1).trans ((g11.1.same b (by omega) n2).trans ((m10.same b (by omega) n1).trans (g9.1.same b j n3)))
      have M:=r5.mod L cm;refine M.ld (c:=ai .i64) (i:=5) (x:=t.next) rfl ?_;refine M.st (i:=5) (by simp[tC]) (by rfl) λR c5 m13 en=>?_;obtain⟨fa,fb⟩:=v.set w hg (f':={f with log:=f.log++[⟨t.next,pg,⟨b,a⟩⟩]}) (g':=⟨l.p,J,l.syn,s9⟩) rfl rfl c4 L (by
       have z1:=g9.1.size;rintro b (e|j|j|j)
       ·exact .inl (.inl e)
       ·rcases g11.2 b j with q|q
        ·exact .inl (.inr (.inl q))
        ·right;omega
       ·exact .inl (.inr (.inr (.inl j)))
       ·exact(g9.2 b j).imp (λq=>.inr (.inr (.inr q))) id)
      have r:(t.tj i ⟨t.next,pg,⟨b,a⟩⟩).used=u:=by
       have h1:=Dk.AK (s:=t) (g:=λf=>{f with log:=f.log++[⟨t.next,pg,⟨b,a⟩⟩]}) w;have h2:({f with log:=f.log++[⟨t.next,pg,⟨b,a⟩⟩]}:Fl).aG.length=max f.aG.length (pg+1):=by
        have e:({f with log:=f.log++[⟨t.next,pg,⟨b,a⟩⟩]}:Fl).aG=vu f.aG ⟨t.next,pg,⟨b,a⟩⟩:=by simp[Fl.aG]
        rw[e,nh]
       have h3:(t.tj i ⟨t.next,pg,⟨b,a⟩⟩).used=(t.Ph i (λf=>{f with log:=f.log++[⟨t.next,pg,⟨b,a⟩⟩]})).used:=rfl;rw[h3];split at hu<;>omega
      dsimp only at N;rw[r] at N;have b4:¬DG.fp {x with gs:=x.gs.set i ⟨l.p,J,l.syn,s9⟩} d:=by
       intro j;exact gL.uL M fa j
      have W:=fa.aE (H':=R) λb j p=>m13.same b p λe=>b4 (e▸j);have gg:gL {x with gs:=x.gs.set i ⟨l.p,J,l.syn,s9⟩} S kp R d ((t.tj i ⟨t.next,pg,⟨b,a⟩⟩).ni (max t.most u)):=by
       refine⟨?_,g4.crash,?_,?_⟩
       ·have e:((t.tj i ⟨t.next,pg,⟨b,a⟩⟩).ni (max t.most u)).used=u:=r;rw[e];exact c5
       ·rw[<-cT w (g:=λf=>{f with log:=f.log++[⟨t.next,pg,⟨b,a⟩⟩]})] at W;exact W
       ·refine g4.wf.modify (g:=λf=>{f with log:=f.log++[⟨t.next,pg,⟨b,a⟩⟩]}) w rfl rfl ?_ ?_ rfl rfl rfl
        ·have e:((t.tj i ⟨t.next,pg,⟨b,a⟩⟩).ni (max t.most u)).used=u:=r;rw[e];exact Nat.le_max_right _ _
        ·show max t.most u<=t.quota;split at hu<;>omega
      have c6:Mod F H0 R:=((m4.trans m5).mono λb _ e=>(X b).2 (.inl e)).trans ((L.mono λb _ e=>(X b).2 (.inr (.inr ⟨l,P,e⟩))).trans (m13.mono λb _ e=>(X b).2 (.inl e)));obtain⟨F',q1,q2⟩:=gg.out (x:=x) (F:=F) (H:=H0) X c6 (λb j=>(fb b j).imp id (λq=>by omega));exact N F' R q1 q2
end Go.Proofs.YtkehfflpbpdokaaGreatDoor
