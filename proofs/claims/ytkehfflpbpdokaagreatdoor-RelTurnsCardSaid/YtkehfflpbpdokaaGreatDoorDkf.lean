/-
 The disk: Write and Read.
-/
import Derived.Test.YtkehfflpbpdokaaGreatDoorDke
open Bool renaming false_eq_true->Ns
open Go.Instr renaming fill->M0
open Go.IntKind renaming i64->Ke
open Go.Proofs.Tryz renaming prog->Kf
open Go.Value renaming int->Km
namespace Go.Proofs.YtkehfflpbpdokaaGreatDoor
open Go.MapKept
def dz (b:List UInt8):List Int:=b.map λx=>(x.toNat:Int)
abbrev cG (H:aa)(s:Sl)(b:List UInt8):Prop:=Ints .u8 H s (dz b)
theorem iL (b:List UInt8):(dz b).map (Km .u8)=gO b:=by simp[dz,gO]
theorem cG.n {H:aa}{s:Sl}{b:List UInt8}(h:cG H s b):s.n=b.length:=by have:=h.len;simpa[dz] using this
theorem cG.cells {H:aa}{s:Sl}{b:List UInt8}(h:cG H s b):Reads H s.a (gO b):=by rw[<-iL];exact h.reads
theorem cG.row {H:aa}{s:Sl}{b:List UInt8}{ad:Addr}(h:cG H s b)(ha:s.a=some ad):kL H ad b.length (.agg (gO b).toArray):=by
 refine⟨_,rfl,by simp[gO],λi hi=>?_⟩
 have hv:(gO b)[i]?=some ((gO b)[i]'(by simpa[gO] using hi)):=List.getElem?_eq_getElem _
 obtain⟨ad',e1,hc⟩:=h.cells _ _ hv
 rw[ha] at e1;cases e1
 rw[hc];simp
theorem cG.aA {H H':aa}{s:Sl}{b:List UInt8}(h:cG H s b)(k:∀ad,s.a=some ad->ad.block<H.size->H'[ad.block]?=H[ad.block]?):cG H' s b:=by
 refine⟨h.len,λi v hv=>?_⟩
 obtain⟨ad,ha,hc⟩:=h.reads i v hv
 have hlt:=iV hc
 rw[bO] at hlt
 exact⟨ad,ha,(dx (by rw[bO];exact k ad ha hlt)).trans hc⟩
theorem cG.addr {H:aa}{s:Sl}{b:List UInt8}(h:cG H s b)(hb:0<b.length):∃ad,s.a=some ad/\ad.block<H.size:=by
 obtain⟨ad,ha,hc⟩:=h.reads.at (i:=0) (by simp[dz];exact hb)
 have:=iV hc
 rw[bO] at this
 exact⟨ad,ha,this⟩
theorem kG {H H':aa}{ad:Addr}{n:Nat}{v:Value}(h:kL H ad n v)(k:H'[ad.block]?=H[ad.block]?):kL H' ad n v:=by
 obtain⟨cs,e,hn,hc⟩:=h
 exact⟨cs,e,hn,λi hi=>(dx (by rw[bO];exact k)).trans (hc i hi)⟩
theorem xM (parts:List (Nat×Value)):Kf.built Ek parts=M0 (λi=>(#[(0,1),(1,1),(2,512)]:Array (Nat×Nat))[i]?) (zc Kf Ek) parts:=by kernel_rfl
theorem ug:(zc Kf Ek).size=514:=by kernel_rfl
theorem zo {no ab:Int}{cs z:Array Value}(hz:z.size=514)(hc:cs.size=512):
  M0 (λi=>(#[(0,1),(1,1),(2,512)]:Array (Nat×Nat))[i]?) z [(0,(.int .i64 no)),(1,(.int .i64 ab)),(2,(.agg cs))]=some (#[.int .i64 no,.int .i64 ab]++cs):=by
 have c1:(Km .i64 no).cells=#[.int .i64 no]:=rfl
 have c2:(Km .i64 ab).cells=#[.int .i64 ab]:=rfl
 have c3:(Value.agg cs).cells=cs:=rfl
 rw[kz (off:=0) (n:=1) (v:=.int .i64 no) rfl rfl (by omega),kz (off:=1) (n:=1) (v:=.int .i64 ab) rfl rfl (by simp[c1];omega),kz (off:=2) (n:=512) (v:=.agg cs) rfl hc (by simp[c1,c2];omega)]
 simp only[M0,c1,c2,c3]
 refine congrArg some (Array.ext' ?_)
 simp
 omega
theorem xF {no ab:Int}{cs:Array Value}{K:Array Value->Prop}(hc:cs.size=512)(hK:K (#[.int .i64 no,.int .i64 ab]++cs)):
  vC oq Kf (Instr.build Ek #[(0,(.int .i64 no)),(1,(.int .i64 ab)),(2,(.agg cs))]) K:=by
 refine⟨_,λw=>?_,hK⟩
 refine run_build w _ _ _ ?_
 rw[xM]
 exact zo ug hc
set_option maxHeartbeats 1000000 in
theorem Cs {F:Nat->Prop}{d:Nat}{s:Dk}{H:aa}{n:ByteArray}{ab:Int}{p3:Sl}{b:List UInt8}{K:Int->aa->Prop}(h:bN F H d s)(hb:cG H p3 b)(hpb:∀ad,p3.a=some ad->¬F ad.block)(hlogs:s.bf<68719476736)
  (hK:∀F' H',bN F' H' d (s.write n ab b).1->Step F F' H H'->K (s.write n ab b).2 H'):Fy.sp (aD d) n ab p3 H K:=by
 have h0:=h
 obtain⟨x,cin,kp,g,hF⟩:=h
 refine Fy.of ?_
 unfold Fy.vc
 simp only[aq]
 have stay:∀e:Int,s.write n ab b=(s,e)->K e H:=by
  intro e he
  have:=hK F H (by rw[he];exact h0) (.refl _ _)
  rw[he] at this;exact this
 refine pz g.head (down:=s.down) rfl ?_
 cases hd:s.down with
 |true=>exact stay 4 (by unfold Dk.write;rw[hd];rfl)
 |false=>
   refine ax rfl ?_
   have hbn:=hb.n
   refine ak (λhne=>stay 2 ?_) (λhne=>?_)
   ·have:b.length≠512:=by simp at hne;omega
    unfold Dk.write;rw[hd];simp[this]
   have hb512:b.length=512:=by simp at hne;omega
   refine oM g (λhd'=>by rw[hd] at hd';cases hd') (λ_ hN=>?_) (λi f gf _ hi hf hfn hg hFl=>?_)
   ·refine⟨λ_ _=>False,stay 11 ?_,λ_ _ h=>h.elim⟩
    unfold Dk.write;rw[hd];simp[hb512,hN]
   have hfile:s.file i=f:=Dk.gu hf
   have hnow:=hFl.now.n (by decide)
   have w1:=g.wf.used;have w2:=g.wf.most;have w3:=g.wf.quota
   have hpl:=Dk.vG hf
   have e12:ab<0\/ab>f.aB.length->s.write n ab b=(s,12):=by
    intro hp
    unfold Dk.write;rw[hd];simp only[Ns,if_false,hb512,dif_pos,hi,hfile]
    rw[if_pos hp]
   have e5:¬(ab<0\/ab>f.aB.length)->ab=f.aB.length->s.used=s.quota->s.write n ab b=(s,5):=by
    intro hp h1 h2
    unfold Dk.write;rw[hd];simp only[Ns,if_false,hb512,dif_pos,hi,hfile]
    rw[if_neg hp,if_pos ⟨h1,by omega⟩]
   refine⟨λ_ H'=>H'=H/\¬(ab<0\/ab>f.aB.length)/\¬(ab=f.aB.length/\s.used=s.quota),?_,?_⟩
   ·refine ax rfl ?_
    refine ak (λhp=>?_) (λhp=>?_)
    ·exact aT hp (stay 12 (e12 (.inl (by simpa using hp))))
    ·have hp0:¬ab<0:=by simpa using hp
     simp only[aq]
     refine hFl.row.ld (c:=ao) (i:=0) (x:=gf.now) rfl ?_
     refine ak (λhp=>?_) (λhp=>?_)
     ·exact stay 12 (e12 (.inr (by simp at hp;omega)))
     ·have hp1:¬(ab<0\/ab>f.aB.length):=by simp at hp;omega
      refine hFl.row.ld (c:=ao) (i:=0) (x:=gf.now) rfl ?_
      refine ak (λhe=>?_) (λhe=>?_)
      ·have he':ab=f.aB.length:=by simp at he;omega
       refine g.head.ld (c:=af .i64) (i:=1) (x:=s.used) rfl ?_
       refine g.head.ld (c:=af .i64) (i:=3) (x:=s.quota) rfl ?_
       refine ak (λhq=>?_) (λhq=>?_)
       ·exact stay 5 (e5 hp1 he' (by simp at hq;omega))
       ·exact⟨by trivial,hp1,λhh=>by simp at hq;omega⟩
      ·exact⟨by trivial,hp1,λhh=>by simp at he;omega⟩
   ·rintro _ H0 ⟨rfl,hp1,hp2⟩
    obtain⟨pg,rfl⟩:∃k:Nat,ab=k:=⟨ab.toNat,by omega⟩
    have hpg:pg<=f.aB.length:=by omega
    have hr:s.write n pg b=s.step λt=>(t.qF i ⟨t.next,pg,⟨b,hb512⟩⟩).kF (max t.most (t.qF i ⟨t.next,pg,⟨b,hb512⟩⟩).used):=by
     unfold Dk.write;rw[hd];simp only[Ns,if_false,hb512,dif_pos,hi,hfile]
     rw[if_neg hp1,if_neg (by omega)]
     rfl
    rw[hr] at hK
    unfold Dk.step at hK
    refine mR g λcin' H4 g4 m4 s4=>?_
    refine ak (λhz=>?_) (λhz=>?_)
    ·have hz':s.change.2≠0:=by simpa using hz
     rw[if_neg hz'] at hK
     obtain⟨F',q1,q2⟩:=g4.out (x:=x) (F:=F) (H:=H0) hF (m4.mono λb _ e=>(hF b).2 (.inl e)) (λb q=>.inl q)
     exact hK F' H4 q1 q2
    have hz':s.change.2=0:=by simpa using hz
    rw[if_pos hz'] at hK
    obtain⟨k1,k2,k3,k4⟩:=s.u7
    have hfs:=s.dD
    generalize ht:s.change.1=t at*
    have hf4:t.files[i]?=some f:=by rw[hfs];exact hf
    have hFl4:=(g4.files.ent i f gf hf4 hg).2
    have hgm:=List.mem_of_getElem? hg
    have hdx:=eZ.pH g4.head g4.files
    -- how many pages there are then
    obtain⟨u,hu⟩:∃u:Nat,u=if pg=f.aB.length then t.used+1 else t.used:=⟨_,rfl⟩
    refine⟨λ_ H5=>ag H5 d Hg (qN x.m u (max t.most u:Nat) t.quota t.ops t.next t.crash.isSome cin' kp t.down)/\Mod (λb=>b=d) H4 H5/\H5.size=H4.size,?_,?_⟩
    ·refine hFl4.row.ld (c:=ao) (i:=0) (x:=gf.now) rfl ?_
     refine ak (λhe=>?_) (λhe=>?_)
     ·have he':pg=f.aB.length:=by simp at he;omega
      rw[if_pos he'] at hu
      refine g4.head.ld (c:=af .i64) (i:=1) (x:=t.used) rfl ?_
      refine g4.head.st (i:=1) (by simp[qN]) (by rfl) λH6 r6 m6 s6=>?_
      have eu:Ke.wrap ((t.used:Int)+1)=(u:Int):=by rw[wrap64 (by omega) (by omega)];omega
      rw[eu] at r6
      refine r6.ld (c:=af .i64) (i:=2) (x:=t.most) rfl ?_
      refine r6.ld (c:=af .i64) (i:=1) (x:=u) rfl ?_
      refine r6.st (i:=2) (by simp[qN]) (by rfl) λH7 r7 m7 s7=>?_
      have em:(if (u:Int)>(t.most:Int) then (u:Int) else (t.most:Int))=((max t.most u:Nat):Int):=by split<;>omega
      rw[em] at r7
      exact⟨r7,m6.trans m7,by omega⟩
     ·have he':pg≠f.aB.length:=by simp at he;omega
      rw[if_neg he'] at hu
      have em:(max t.most u:Nat)=t.most:=by have:=g4.wf.used;omega
      rw[em,hu]
      exact⟨g4.head,.refl _ _,rfl⟩
    ·rintro _ H5 ⟨r5,m5,s5⟩
     obtain⟨ad,ha,hal⟩:=hb.addr (by omega)
     have hadF:¬F ad.block:=hpb ad ha
     have hadx:∀b,(b=d\/x.fp b)->b≠ad.block:=λb hb e=>hadF ((hF _).2 (e▸hb))
     have hadd:ad.block≠d:=λe=>hadx d (.inl rfl) e.symm
     have row0:=hb.row ha
     rw[hb512] at row0
     have row4:kL H4 ad 512 (.agg (gO b).toArray):=kG row0 (m4.same _ hal hadd)
     have s04:H4.size=H0.size:=s4
     have row5:kL H5 ad 512 (.agg (gO b).toArray):=kG row4 (m5.same _ (by omega) hadd)
     have hgd:¬gf.fp d:=λhb=>hdx (.inr ⟨gf,hgm,hb⟩)
     have files5:bg H5 x t.files:=g4.files.aA λb hb hl=>m5.same b hl λe=>hdx (e▸hb)
     have F5:=(files5.ent i f gf hf4 hg).2
     refine⟨λH'=>ag H' gf.p Gu #[gf.now.v,gf.syn.v,gf.log.v]/\kL H' ad 512 (.agg (gO b).toArray),⟨F5.row,row5⟩,?_⟩
     refine⟨gf.log,λH' hG=>by rw[bq];exact hG.1.cell rfl,?_⟩
     refine r5.ld (c:=af .i64) (i:=5) (x:=t.next) rfl ?_
     refine⟨by omega,?_⟩
     rw[ha]
     refine⟨(gO b).toArray,λH' hG=>hG.2,?_⟩
     refine xF (by simp[gO,hb512]) ?_
     have hll:=Dk.Gv hf
     refine cw.Cx (E:=HX) Gp (x:=⟨t.next,pg,⟨b,hb512⟩⟩) F5.log (by simp[HX]) (by decide) (by omega) (by omega) _ (λH8 s8 m8=>?_) λs9 H9 o9 g9 _=>?_
     ·exact⟨F5.row.ext m8,kG row5 (m8.same _ (by omega) id)⟩
     ·have ty1:∀b,ai gf.log b->b≠gf.p:=λb hb e=>by
       obtain⟨c,q⟩:=F5.log.obj b hb
       rw[e] at q
       exact absurd (aW F5.row q) (by decide)
      have ty2:∀b,ai gf.now b->b≠gf.p:=λb hb e=>by
       obtain⟨c,q⟩:=F5.now.obj b hb
       rw[e] at q
       exact absurd (aW F5.row q) (by decide)
      have ty3:∀b,ai gf.syn b->b≠gf.p:=λb hb e=>by
       obtain⟨c,q⟩:=F5.syn.obj b hb
       rw[e] at q
       exact absurd (aW F5.row q) (by decide)
      have ty4:∀b,ai gf.log b->¬ai gf.now b:=F5.log.apart F5.now (by decide)
      have ty5:∀b,ai gf.log b->¬ai gf.syn b:=F5.log.apart F5.syn (by decide)
      have lnow:=F5.now.lt;have lsyn:=F5.syn.lt;have llog:=F5.log.lt
      have lp:gf.p<H5.size:=aG F5.row
      have F9:ag H9 gf.p Gu #[gf.now.v,gf.syn.v,gf.log.v]:=F5.row.mod g9.1 (λhb=>ty1 _ hb rfl)
      simp only[aq]
      refine F9.st (i:=2) (by simp) (by rfl) λH10 r10 m10 s10=>?_
      have hadp:ad.block≠gf.p:=λe=>hadx _ (.inr (.inr ⟨gf,hgm,.inl rfl⟩)) e.symm
      have hadl:¬ai gf.log ad.block:=λhb=>hadx _ (.inr (.inr ⟨gf,hgm,.inr (.inr (.inr hb))⟩)) rfl
      have row10:kL H10 ad 512 (.agg (gO b).toArray):=kG row5 ((m10.same _ (by have:=g9.1.size;omega) hadp).trans (g9.1.same _ (by omega) hadl))
      refine r10.ld (c:=ao) (i:=0) (x:=gf.now) rfl ?_
      refine⟨by omega,?_⟩
      refine⟨(gO b).toArray,row10,?_⟩
      have now10:cw xI xo H10 gf.now f.aB:=F5.now.aA λb hb hl=>(m10.same b (by have:=g9.1.size;omega) (ty2 b hb)).trans (g9.1.same b hl λhh=>ty4 b hh hb)
      have syn10:cw xI xo H10 gf.syn f.synced:=F5.syn.aA λb hb hl=>(m10.same b (by have:=g9.1.size;omega) (ty3 b hb)).trans (g9.1.same b hl λhh=>ty5 b hh hb)
      have hs9:∀b,ai s9 b->b≠gf.p:=λb hb e=>by
       obtain⟨c,q⟩:=o9.obj b hb
       rw[e] at q
       exact absurd (aW F9 q) (by decide)
      have log10:cw HX Ek H10 s9 (f.log++[⟨t.next,pg,⟨b,hb512⟩⟩]):=o9.aA λb hb hl=>m10.same b hl (hs9 b hb)
      refine He (no:=t.next) (b:=⟨b,hb512⟩) now10 (by omega) (by omega) λs11 H11 o11 g11=>?_
      have lp10:gf.p<H10.size:=aG r10
      have r11:ag H11 gf.p Gu #[gf.now.v,gf.syn.v,s9.v]:=r10.mod g11.1 (λhb=>ty2 _ hb rfl)
      refine r11.st (i:=0) (by simp) (by rfl) λH12 r12 m12 s12=>?_
      have hs11:∀b,ai s11 b->b≠gf.p:=λb hb e=>by
       obtain⟨c,q⟩:=o11.obj b hb
       rw[e] at q
       exact absurd (aW r11 q) (by decide)
      have q12:db H12 ⟨gf.p,s11,gf.syn,s9⟩ {f with log:=f.log++[⟨t.next,pg,⟨b,hb512⟩⟩]}:=by
       have lsyn10:=syn10.lt;have llog10:=log10.lt
       refine⟨r12,?_,?_,?_,?_⟩
       ·have:=o11.aA (H':=H12) λb hb hl=>m12.same b hl (hs11 b hb)
        have e:({f with log:=f.log++[⟨t.next,pg,⟨b,hb512⟩⟩]}:Fl).aB=qW f.aB ⟨t.next,pg,⟨b,hb512⟩⟩:=by simp[Fl.aB]
        rw[e];exact this
       ·exact syn10.aA λb hb hl=>(m12.same b (by have:=g11.1.size;omega) (ty3 b hb)).trans (g11.1.same b hl λhh=>F5.apart b hh hb)
       ·refine log10.aA λb hb hl=>(m12.same b (by have:=g11.1.size;omega) (hs9 b hb)).trans (g11.1.same b hl λhh=>?_)
        exact(log10.apart now10 (by decide)) b hb hh
       ·intro b hb hb2
        rcases g11.2 b hb with q|q
        ·exact F5.apart b q hb2
        ·have:=lsyn10 b hb2;omega
      have m512:Mod gf.fp H5 H12:=by
       have z1:=g9.1.size;have z2:=g11.1.size
       refine⟨by omega,λb hb hn=>?_⟩
       have n1:b≠gf.p:=λe=>hn (.inl e)
       have n2:¬ai gf.now b:=λe=>hn (.inr (.inl e))
       have n3:¬ai gf.log b:=λe=>hn (.inr (.inr (.inr e)))
       exact(m12.same b (by omega) n1).trans ((g11.1.same b (by omega) n2).trans ((m10.same b (by omega) n1).trans (g9.1.same b hb n3)))
      have r12d:=r5.mod m512 hgd
      refine r12d.ld (c:=af .i64) (i:=5) (x:=t.next) rfl ?_
      refine r12d.st (i:=5) (by simp[qN]) (by rfl) λH13 r13 m13 s13=>?_
      obtain⟨fa,fb⟩:=files5.set hf4 hg (f':={f with log:=f.log++[⟨t.next,pg,⟨b,hb512⟩⟩]}) (g':=⟨gf.p,s11,gf.syn,s9⟩) rfl rfl q12 m512 (by
       have z1:=g9.1.size
       rintro b (e|hb|hb|hb)
       ·exact .inl (.inl e)
       ·rcases g11.2 b hb with q|q
        ·exact .inl (.inr (.inl q))
        ·right;omega
       ·exact .inl (.inr (.inr (.inl hb)))
       ·exact(g9.2 b hb).imp (λq=>.inr (.inr (.inr q))) id)
      have hused:(t.qF i ⟨t.next,pg,⟨b,hb512⟩⟩).used=u:=by
       have h1:=Dk.uZ (s:=t) (g:=λf=>{f with log:=f.log++[⟨t.next,pg,⟨b,hb512⟩⟩]}) hf4
       have h2:({f with log:=f.log++[⟨t.next,pg,⟨b,hb512⟩⟩]}:Fl).aB.length=max f.aB.length (pg+1):=by
        have e:({f with log:=f.log++[⟨t.next,pg,⟨b,hb512⟩⟩]}:Fl).aB=qW f.aB ⟨t.next,pg,⟨b,hb512⟩⟩:=by simp[Fl.aB]
        rw[e,jW]
       have h3:(t.qF i ⟨t.next,pg,⟨b,hb512⟩⟩).used=(t.Jt i (λf=>{f with log:=f.log++[⟨t.next,pg,⟨b,hb512⟩⟩]})).used:=rfl
       rw[h3]
       split at hu<;>omega
      dsimp only at hK
      rw[hused] at hK
      have hd12:¬DG.fp {x with gs:=x.gs.set i ⟨gf.p,s11,gf.syn,s9⟩} d:=by
       intro hb
       exact eZ.pH r12d fa hb
      have fa13:=fa.aA (H':=H13) λb hb hl=>m13.same b hl λe=>hd12 (e▸hb)
      have gg:eZ {x with gs:=x.gs.set i ⟨gf.p,s11,gf.syn,s9⟩} cin' kp H13 d ((t.qF i ⟨t.next,pg,⟨b,hb512⟩⟩).kF (max t.most u)):=by
       refine⟨?_,g4.crash,?_,?_⟩
       ·have e:((t.qF i ⟨t.next,pg,⟨b,hb512⟩⟩).kF (max t.most u)).used=u:=hused
        rw[e];exact r13
       ·rw[<-bY hf4 (g:=λf=>{f with log:=f.log++[⟨t.next,pg,⟨b,hb512⟩⟩]})] at fa13;exact fa13
       ·refine g4.wf.modify (g:=λf=>{f with log:=f.log++[⟨t.next,pg,⟨b,hb512⟩⟩]}) hf4 rfl rfl ?_ ?_ rfl rfl rfl
        ·have e:((t.qF i ⟨t.next,pg,⟨b,hb512⟩⟩).kF (max t.most u)).used=u:=hused
         rw[e];exact Nat.le_max_right _ _
        ·show max t.most u<=t.quota
         split at hu<;>omega
      have hmm:Mod F H0 H13:=((m4.trans m5).mono λb _ e=>(hF b).2 (.inl e)).trans ((m512.mono λb _ e=>(hF b).2 (.inr (.inr ⟨gf,hgm,e⟩))).trans (m13.mono λb _ e=>(hF b).2 (.inl e)))
      obtain⟨F',q1,q2⟩:=gg.out (x:=x) (F:=F) (H:=H0) hF hmm (λb hb=>(fb b hb).imp id (λq=>by omega))
      exact hK F' H13 q1 q2
end Go.Proofs.YtkehfflpbpdokaaGreatDoor
