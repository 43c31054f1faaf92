/-
 The disk: Write and Read.
-/
import Derived.Test.YtdpdmbceakdlmaaGreatDoorDke
open Bool renaming false_eq_true->MI
open Go.Instr renaming fill->MP
open Go.IntKind renaming i64->KG
open Go.Proofs.Tryz renaming prog->KE
open Go.Value renaming int->Lb
namespace Go.Proofs.YtdpdmbceakdlmaaGreatDoor
open Go.MapKept
def dy (b:List UInt8):List Int:=b.map λx=>(x.toNat:Int)
abbrev bG (H:Heap)(s:Sl)(b:List UInt8):Prop:=Ints .u8 H s (dy b)
theorem dN (b:List UInt8):(dy b).map (Lb .u8)=fk b:=by simp[dy,fk]
theorem bG.n {H:Heap}{s:Sl}{b:List UInt8}(h:bG H s b):s.n=b.length:=by have:=h.len;simpa[dy] using this
theorem bG.cells {H:Heap}{s:Sl}{b:List UInt8}(h:bG H s b):Reads H s.a (fk b):=by rw[<-dN];exact h.reads
theorem bG.row {H:Heap}{s:Sl}{b:List UInt8}{ad:Addr}(h:bG H s b)(ha:s.a=some ad):kT H ad b.length (.agg (fk b).toArray):=by
 refine⟨_,rfl,by simp[fk],λi hi=>?_⟩
 have hv:(fk b)[i]?=some ((fk b)[i]'(by simpa[fk] using hi)):=List.getElem?_eq_getElem _
 obtain⟨ad',e1,hc⟩:=h.cells _ _ hv
 rw[ha] at e1;cases e1
 rw[hc];simp
theorem bG.ak {H H':Heap}{s:Sl}{b:List UInt8}(h:bG H s b)(k:∀ad,s.a=some ad->ad.block<H.size->H'[ad.block]?=H[ad.block]?):bG H' s b:=by
 refine⟨h.len,λi v hv=>?_⟩
 obtain⟨ad,ha,hc⟩:=h.reads i v hv
 have hlt:=fK hc
 rw[cO] at hlt
 exact⟨ad,ha,(dV (by rw[cO];exact k ad ha hlt)).trans hc⟩
theorem bG.addr {H:Heap}{s:Sl}{b:List UInt8}(h:bG H s b)(hb:0<b.length):∃ad,s.a=some ad/\ad.block<H.size:=by
 obtain⟨ad,ha,hc⟩:=h.reads.at (i:=0) (by simp[dy];exact hb)
 have:=fK hc
 rw[cO] at this
 exact⟨ad,ha,this⟩
theorem lF {H H':Heap}{ad:Addr}{n:Nat}{v:Value}(h:kT H ad n v)(k:H'[ad.block]?=H[ad.block]?):kT H' ad n v:=by
 obtain⟨cs,e,hn,hc⟩:=h
 exact⟨cs,e,hn,λi hi=>(dV (by rw[cO];exact k)).trans (hc i hi)⟩
theorem yf (parts:List (Nat×Value)):KE.built qa parts=MP (λi=>(#[(0,1),(1,1),(2,512)]:Array (Nat×Nat))[i]?) (zc KE qa) parts:=by kernel_rfl
theorem jB:(zc KE qa).size=514:=by kernel_rfl
theorem Ac {no page:Int}{cs z:Array Value}(hz:z.size=514)(hc:cs.size=512):
  MP (λi=>(#[(0,1),(1,1),(2,512)]:Array (Nat×Nat))[i]?) z [(0,(.int .i64 no)),(1,(.int .i64 page)),(2,(.agg cs))]=some (#[.int .i64 no,.int .i64 page]++cs):=by
 have c1:(Lb .i64 no).cells=#[.int .i64 no]:=rfl
 have c2:(Lb .i64 page).cells=#[.int .i64 page]:=rfl
 have c3:(Value.agg cs).cells=cs:=rfl
 rw[lq (off:=0) (n:=1) (v:=.int .i64 no) rfl rfl (by omega),lq (off:=1) (n:=1) (v:=.int .i64 page) rfl rfl (by simp[c1];omega),lq (off:=2) (n:=512) (v:=.agg cs) rfl hc (by simp[c1,c2];omega)]
 simp only[MP,c1,c2,c3]
 refine congrArg some (Array.ext' ?_)
 simp
 omega
theorem xT {no page:Int}{cs:Array Value}{K:Array Value->Prop}(hc:cs.size=512)(hK:K (#[.int .i64 no,.int .i64 page]++cs)):
  we jn KE (Instr.build qa #[(0,(.int .i64 no)),(1,(.int .i64 page)),(2,(.agg cs))]) K:=by
 refine⟨_,λw=>?_,hK⟩
 refine run_build w _ _ _ ?_
 rw[yf]
 exact Ac jB hc
set_option maxHeartbeats 1000000 in
theorem DN {F:Nat->Prop}{d:Nat}{s:Dk}{H:Heap}{n:ByteArray}{page:Int}{p3:Sl}{b:List UInt8}{K:Int->Heap->Prop}(h:bj F H d s)(hb:bG H p3 b)(hpb:∀ad,p3.a=some ad->¬F ad.block)(hlogs:s.logs<68719476736)
  (hK:∀F' H',bj F' H' d (s.write n page b).1->Step F F' H H'->K (s.write n page b).2 H'):GS.sp (aD d) n page p3 H K:=by
 have h0:=h
 obtain⟨x,cin,kp,g,hF⟩:=h
 refine GS.of ?_
 unfold GS.vc
 simp only[aq]
 have stay:∀e:Int,s.write n page b=(s,e)->K e H:=by
  intro e he
  have:=hK F H (by rw[he];exact h0) (.refl _ _)
  rw[he] at this;exact this
 refine kx g.head (down:=s.down) rfl ?_
 cases hd:s.down with
 |true=>exact stay 4 (by unfold Dk.write;rw[hd];rfl)
 |false=>
   refine aw rfl ?_
   have hbn:=hb.n
   refine ae (λhne=>stay 2 ?_) (λhne=>?_)
   ·have:b.length≠512:=by simp at hne;omega
    unfold Dk.write;rw[hd];simp[this]
   have hb512:b.length=512:=by simp at hne;omega
   refine pX g (λhd'=>by rw[hd] at hd';cases hd') (λ_ hN=>?_) (λi f gf _ hi hf hfn hg hFl=>?_)
   ·refine⟨λ_ _=>False,stay 11 ?_,λ_ _ h=>h.elim⟩
    unfold Dk.write;rw[hd];simp[hb512,hN]
   have hfile:s.file i=f:=Dk.dd hf
   have hnow:=hFl.now.n (by decide)
   have w1:=g.wf.used;have w2:=g.wf.most;have w3:=g.wf.quota
   have hpl:=Dk.eH hf
   have e12:page<0\/page>f.au.length->s.write n page b=(s,12):=by
    intro hp
    unfold Dk.write;rw[hd];simp only[MI,if_false,hb512,dif_pos,hi,hfile]
    rw[if_pos hp]
   have e5:¬(page<0\/page>f.au.length)->page=f.au.length->s.used=s.quota->s.write n page b=(s,5):=by
    intro hp h1 h2
    unfold Dk.write;rw[hd];simp only[MI,if_false,hb512,dif_pos,hi,hfile]
    rw[if_neg hp,if_pos ⟨h1,by omega⟩]
   refine⟨λ_ H'=>H'=H/\¬(page<0\/page>f.au.length)/\¬(page=f.au.length/\s.used=s.quota),?_,?_⟩
   ·refine aw rfl ?_
    refine ae (λhp=>?_) (λhp=>?_)
    ·exact aP hp (stay 12 (e12 (.inl (by simpa using hp))))
    ·have hp0:¬page<0:=by simpa using hp
     simp only[aq]
     refine hFl.row.ld (c:=av) (i:=0) (x:=gf.now) rfl ?_
     refine ae (λhp=>?_) (λhp=>?_)
     ·exact stay 12 (e12 (.inr (by simp at hp;omega)))
     ·have hp1:¬(page<0\/page>f.au.length):=by simp at hp;omega
      refine hFl.row.ld (c:=av) (i:=0) (x:=gf.now) rfl ?_
      refine ae (λhe=>?_) (λhe=>?_)
      ·have he':page=f.au.length:=by simp at he;omega
       refine g.head.ld (c:=aa .i64) (i:=1) (x:=s.used) rfl ?_
       refine g.head.ld (c:=aa .i64) (i:=3) (x:=s.quota) rfl ?_
       refine ae (λhq=>?_) (λhq=>?_)
       ·exact stay 5 (e5 hp1 he' (by simp at hq;omega))
       ·exact⟨by trivial,hp1,λhh=>by simp at hq;omega⟩
      ·exact⟨by trivial,hp1,λhh=>by simp at he;omega⟩
   ·rintro _ H0 ⟨rfl,hp1,hp2⟩
    obtain⟨pg,rfl⟩:∃k:Nat,page=k:=⟨page.toNat,by omega⟩
    have hpg:pg<=f.au.length:=by omega
    have hr:s.write n pg b=s.step λt=>(t.ff i ⟨t.next,pg,⟨b,hb512⟩⟩).gk (max t.most (t.ff i ⟨t.next,pg,⟨b,hb512⟩⟩).used):=by
     unfold Dk.write;rw[hd];simp only[MI,if_false,hb512,dif_pos,hi,hfile]
     rw[if_neg hp1,if_neg (by omega)]
     rfl
    rw[hr] at hK
    unfold Dk.step at hK
    refine oF g λcin' H4 g4 m4 s4=>?_
    refine ae (λhz=>?_) (λhz=>?_)
    ·have hz':s.change.2≠0:=by simpa using hz
     rw[if_neg hz'] at hK
     obtain⟨F',q1,q2⟩:=g4.out (x:=x) (F:=F) (H:=H0) hF (m4.mono λb _ e=>(hF b).2 (.inl e)) (λb q=>.inl q)
     exact hK F' H4 q1 q2
    have hz':s.change.2=0:=by simpa using hz
    rw[if_pos hz'] at hK
    obtain⟨k1,k2,k3,k4⟩:=s.kj
    have hfs:=s.bc
    generalize ht:s.change.1=t at*
    have hf4:t.files[i]?=some f:=by rw[hfs];exact hf
    have hFl4:=(g4.files.ent i f gf hf4 hg).2
    have hgm:=List.mem_of_getElem? hg
    have hdx:=dJ.mC g4.head g4.files
    -- how many pages there are then
    obtain⟨u,hu⟩:∃u:Nat,u=if pg=f.au.length then t.used+1 else t.used:=⟨_,rfl⟩
    refine⟨λ_ H5=>aj H5 d wE (eW x.m u (max t.most u:Nat) t.quota t.ops t.next t.crash.isSome cin' kp t.down)/\Mod (λb=>b=d) H4 H5/\H5.size=H4.size,?_,?_⟩
    ·refine hFl4.row.ld (c:=av) (i:=0) (x:=gf.now) rfl ?_
     refine ae (λhe=>?_) (λhe=>?_)
     ·have he':pg=f.au.length:=by simp at he;omega
      rw[if_pos he'] at hu
      refine g4.head.ld (c:=aa .i64) (i:=1) (x:=t.used) rfl ?_
      refine g4.head.st (i:=1) (by simp[eW]) (by rfl) λH6 r6 m6 s6=>?_
      have eu:KG.wrap ((t.used:Int)+1)=(u:Int):=by rw[wrap64 (by omega) (by omega)];omega
      rw[eu] at r6
      refine r6.ld (c:=aa .i64) (i:=2) (x:=t.most) rfl ?_
      refine r6.ld (c:=aa .i64) (i:=1) (x:=u) rfl ?_
      refine r6.st (i:=2) (by simp[eW]) (by rfl) λH7 r7 m7 s7=>?_
      have em:(if (u:Int)>(t.most:Int) then (u:Int) else (t.most:Int))=((max t.most u:Nat):Int):=by split<;>omega
      rw[em] at r7
      exact⟨r7,m6.trans m7,by omega⟩
     ·have he':pg≠f.au.length:=by simp at he;omega
      rw[if_neg he'] at hu
      have em:(max t.most u:Nat)=t.most:=by have:=g4.wf.used;omega
      rw[em,hu]
      exact⟨g4.head,.refl _ _,rfl⟩
    ·rintro _ H5 ⟨r5,m5,s5⟩
     obtain⟨ad,ha,hal⟩:=hb.addr (by omega)
     have hadF:¬F ad.block:=hpb ad ha
     have hadx:∀b,(b=d\/x.fp b)->b≠ad.block:=λb hb e=>hadF ((hF _).2 (e▸hb))
     have hadd:ad.block≠d:=λe=>hadx d (.inl rfl) e.symm
     have row0:=hb.row ha
     rw[hb512] at row0
     have row4:kT H4 ad 512 (.agg (fk b).toArray):=lF row0 (m4.same _ hal hadd)
     have s04:H4.size=H0.size:=s4
     have row5:kT H5 ad 512 (.agg (fk b).toArray):=lF row4 (m5.same _ (by omega) hadd)
     have hgd:¬gf.fp d:=λhb=>hdx (.inr ⟨gf,hgm,hb⟩)
     have files5:bm H5 x t.files:=g4.files.ak λb hb hl=>m5.same b hl λe=>hdx (e▸hb)
     have F5:=(files5.ent i f gf hf4 hg).2
     refine⟨λH'=>aj H' gf.p zJ #[gf.now.v,gf.syn.v,gf.log.v]/\kT H' ad 512 (.agg (fk b).toArray),⟨F5.row,row5⟩,?_⟩
     refine⟨gf.log,λH' hG=>by rw[aX];exact hG.1.cell rfl,?_⟩
     refine r5.ld (c:=aa .i64) (i:=5) (x:=t.next) rfl ?_
     refine⟨by omega,?_⟩
     rw[ha]
     refine⟨(fk b).toArray,λH' hG=>hG.2,?_⟩
     refine xT (by simp[fk,hb512]) ?_
     have hll:=Dk.jy hf
     refine aK.CQ (E:=uN) Ij (x:=⟨t.next,pg,⟨b,hb512⟩⟩) F5.log (by simp[uN]) (by decide) (by omega) (by omega) _ (λH8 s8 m8=>?_) λs9 H9 o9 g9 _=>?_
     ·exact⟨F5.row.ext m8,lF row5 (m8.same _ (by omega) id)⟩
     ·have ty1:∀b,al gf.log b->b≠gf.p:=λb hb e=>by
       obtain⟨c,q⟩:=F5.log.obj b hb
       rw[e] at q
       exact absurd (aQ F5.row q) (by decide)
      have ty2:∀b,al gf.now b->b≠gf.p:=λb hb e=>by
       obtain⟨c,q⟩:=F5.now.obj b hb
       rw[e] at q
       exact absurd (aQ F5.row q) (by decide)
      have ty3:∀b,al gf.syn b->b≠gf.p:=λb hb e=>by
       obtain⟨c,q⟩:=F5.syn.obj b hb
       rw[e] at q
       exact absurd (aQ F5.row q) (by decide)
      have ty4:∀b,al gf.log b->¬al gf.now b:=F5.log.apart F5.now (by decide)
      have ty5:∀b,al gf.log b->¬al gf.syn b:=F5.log.apart F5.syn (by decide)
      have lnow:=F5.now.lt;have lsyn:=F5.syn.lt;have llog:=F5.log.lt
      have lp:gf.p<H5.size:=aG F5.row
      have F9:aj H9 gf.p zJ #[gf.now.v,gf.syn.v,gf.log.v]:=F5.row.mod g9.1 (λhb=>ty1 _ hb rfl)
      simp only[aq]
      refine F9.st (i:=2) (by simp) (by rfl) λH10 r10 m10 s10=>?_
      have hadp:ad.block≠gf.p:=λe=>hadx _ (.inr (.inr ⟨gf,hgm,.inl rfl⟩)) e.symm
      have hadl:¬al gf.log ad.block:=λhb=>hadx _ (.inr (.inr ⟨gf,hgm,.inr (.inr (.inr hb))⟩)) rfl
      have row10:kT H10 ad 512 (.agg (fk b).toArray):=lF row5 ((m10.same _ (by have:=g9.1.size;omega) hadp).trans (g9.1.same _ (by omega) hadl))
      refine r10.ld (c:=av) (i:=0) (x:=gf.now) rfl ?_
      refine⟨by omega,?_⟩
      refine⟨(fk b).toArray,row10,?_⟩
      have now10:aK rE tv H10 gf.now f.au:=F5.now.ak λb hb hl=>(m10.same b (by have:=g9.1.size;omega) (ty2 b hb)).trans (g9.1.same b hl λhh=>ty4 b hh hb)
      have syn10:aK rE tv H10 gf.syn f.synced:=F5.syn.ak λb hb hl=>(m10.same b (by have:=g9.1.size;omega) (ty3 b hb)).trans (g9.1.same b hl λhh=>ty5 b hh hb)
      have hs9:∀b,al s9 b->b≠gf.p:=λb hb e=>by
       obtain⟨c,q⟩:=o9.obj b hb
       rw[e] at q
       exact absurd (aQ F9 q) (by decide)
      have log10:aK uN qa H10 s9 (f.log++[⟨t.next,pg,⟨b,hb512⟩⟩]):=o9.ak λb hb hl=>m10.same b hl (hs9 b hb)
      refine Cn (no:=t.next) (b:=⟨b,hb512⟩) now10 (by omega) (by omega) λs11 H11 o11 g11=>?_
      have lp10:gf.p<H10.size:=aG r10
      have r11:aj H11 gf.p zJ #[gf.now.v,gf.syn.v,s9.v]:=r10.mod g11.1 (λhb=>ty2 _ hb rfl)
      refine r11.st (i:=0) (by simp) (by rfl) λH12 r12 m12 s12=>?_
      have hs11:∀b,al s11 b->b≠gf.p:=λb hb e=>by
       obtain⟨c,q⟩:=o11.obj b hb
       rw[e] at q
       exact absurd (aQ r11 q) (by decide)
      have q12:cA H12 ⟨gf.p,s11,gf.syn,s9⟩ {f with log:=f.log++[⟨t.next,pg,⟨b,hb512⟩⟩]}:=by
       have lsyn10:=syn10.lt;have llog10:=log10.lt
       refine⟨r12,?_,?_,?_,?_⟩
       ·have:=o11.ak (H':=H12) λb hb hl=>m12.same b hl (hs11 b hb)
        have e:({f with log:=f.log++[⟨t.next,pg,⟨b,hb512⟩⟩]}:Fl).au=dq f.au ⟨t.next,pg,⟨b,hb512⟩⟩:=by simp[Fl.au]
        rw[e];exact this
       ·exact syn10.ak λb hb hl=>(m12.same b (by have:=g11.1.size;omega) (ty3 b hb)).trans (g11.1.same b hl λhh=>F5.apart b hh hb)
       ·refine log10.ak λb hb hl=>(m12.same b (by have:=g11.1.size;omega) (hs9 b hb)).trans (g11.1.same b hl λhh=>?_)
        exact(log10.apart now10 (by decide)) b hb hh
       ·intro b hb hb2
        rcases g11.2 b hb with q|q
        ·exact F5.apart b q hb2
        ·have:=lsyn10 b hb2;omega
      have m512:Mod gf.fp H5 H12:=by
       have z1:=g9.1.size;have z2:=g11.1.size
       refine⟨by omega,λb hb hn=>?_⟩
       have n1:b≠gf.p:=λe=>hn (.inl e)
       have n2:¬al gf.now b:=λe=>hn (.inr (.inl e))
       have n3:¬al gf.log b:=λe=>hn (.inr (.inr (.inr e)))
       exact(m12.same b (by omega) n1).trans ((g11.1.same b (by omega) n2).trans ((m10.same b (by omega) n1).trans (g9.1.same b hb n3)))
      have r12d:=r5.mod m512 hgd
      refine r12d.ld (c:=aa .i64) (i:=5) (x:=t.next) rfl ?_
      refine r12d.st (i:=5) (by simp[eW]) (by rfl) λH13 r13 m13 s13=>?_
      obtain⟨fa,fb⟩:=files5.set hf4 hg (f':={f with log:=f.log++[⟨t.next,pg,⟨b,hb512⟩⟩]}) (g':=⟨gf.p,s11,gf.syn,s9⟩) rfl rfl q12 m512 (by
       have z1:=g9.1.size
       rintro b (e|hb|hb|hb)
       ·exact .inl (.inl e)
       ·rcases g11.2 b hb with q|q
        ·exact .inl (.inr (.inl q))
        ·right;omega
       ·exact .inl (.inr (.inr (.inl hb)))
       ·exact(g9.2 b hb).imp (λq=>.inr (.inr (.inr q))) id)
      have hused:(t.ff i ⟨t.next,pg,⟨b,hb512⟩⟩).used=u:=by
       have h1:=Dk.iN (s:=t) (g:=λf=>{f with log:=f.log++[⟨t.next,pg,⟨b,hb512⟩⟩]}) hf4
       have h2:({f with log:=f.log++[⟨t.next,pg,⟨b,hb512⟩⟩]}:Fl).au.length=max f.au.length (pg+1):=by
        have e:({f with log:=f.log++[⟨t.next,pg,⟨b,hb512⟩⟩]}:Fl).au=dq f.au ⟨t.next,pg,⟨b,hb512⟩⟩:=by simp[Fl.au]
        rw[e,ct]
       have h3:(t.ff i ⟨t.next,pg,⟨b,hb512⟩⟩).used=(t.yI i (λf=>{f with log:=f.log++[⟨t.next,pg,⟨b,hb512⟩⟩]})).used:=rfl
       rw[h3]
       split at hu<;>omega
      dsimp only at hK
      rw[hused] at hK
      have hd12:¬DG.fp {x with gs:=x.gs.set i ⟨gf.p,s11,gf.syn,s9⟩} d:=by
       intro hb
       exact dJ.mC r12d fa hb
      have fa13:=fa.ak (H':=H13) λb hb hl=>m13.same b hl λe=>hd12 (e▸hb)
      have gg:dJ {x with gs:=x.gs.set i ⟨gf.p,s11,gf.syn,s9⟩} cin' kp H13 d ((t.ff i ⟨t.next,pg,⟨b,hb512⟩⟩).gk (max t.most u)):=by
       refine⟨?_,g4.crash,?_,?_⟩
       ·have e:((t.ff i ⟨t.next,pg,⟨b,hb512⟩⟩).gk (max t.most u)).used=u:=hused
        rw[e];exact r13
       ·rw[<-aS hf4 (g:=λf=>{f with log:=f.log++[⟨t.next,pg,⟨b,hb512⟩⟩]})] at fa13;exact fa13
       ·refine g4.wf.modify (g:=λf=>{f with log:=f.log++[⟨t.next,pg,⟨b,hb512⟩⟩]}) hf4 rfl rfl ?_ ?_ rfl rfl rfl
        ·have e:((t.ff i ⟨t.next,pg,⟨b,hb512⟩⟩).gk (max t.most u)).used=u:=hused
         rw[e];exact Nat.le_max_right _ _
        ·show max t.most u<=t.quota
         split at hu<;>omega
      have hmm:Mod F H0 H13:=((m4.trans m5).mono λb _ e=>(hF b).2 (.inl e)).trans ((m512.mono λb _ e=>(hF b).2 (.inr (.inr ⟨gf,hgm,e⟩))).trans (m13.mono λb _ e=>(hF b).2 (.inl e)))
      obtain⟨F',q1,q2⟩:=gg.out (x:=x) (F:=F) (H:=H0) hF hmm (λb hb=>(fb b hb).imp id (λq=>by omega))
      exact hK F' H13 q1 q2
end Go.Proofs.YtdpdmbceakdlmaaGreatDoor
