/-
 The disk: Restart.
-/
import Derived.Test.YtmkbhnholcaghaaGreatDoorDkr
open Bool renaming or_false->Vt
open Go.IntKind renaming i64->N6
open Go.Value renaming string->PA
open List renaming mem_of_getElem?->N9,mem_append->Oe,mem_iff_getElem?->Oh,getElem?_map->Oi,mem_map->Ol,map_cons->Ox,map_append->OO,sum_cons->Ph,map_map->Py,map_congr_left->QQ,length_flatMap->TO,sum_append->Un,flatMap_map->V2,flatMap_def->V3
open List.Perm renaming flatMap_right->U7
open Nat renaming le_trans->Oo
open Option renaming map_some->Q7
namespace Go.Proofs.YtmkbhnholcaghaaGreatDoor
open Go.MapKept
def fN (v:Value):Option ByteArray:=match v with|.string n=>some n|_=>none
def fI (l:List MapEntry)(n:ByteArray):Bool:=l.any λe=>match fN e.key with|some m=>m.toList==n.toList|none=>false
theorem mn {l:List MapEntry}{n:ByteArray}:fI l n=true↔∃e∈l,e.key=.string n:=by
 unfold fI;rw[List.any_eq_true];constructor
 ·rintro⟨e,he,h⟩;refine⟨e,he,?_⟩;cases hk:e.key<;>rw[hk] at h<;>simp[fN] at h;rw[gJ h]
 ·rintro⟨e,he,h⟩;exact⟨e,he,by rw[h];simp[fN]⟩
theorem Aq {l:List MapEntry}{e:MapEntry}{m n:ByteArray}(hk:e.key=.string m):fI (l++[e]) n=(fI l n||(n.toList==m.toList)):=by
 rw[Bool.eq_iff_iff,Bool.or_eq_true,mn,mn,beq_iff_eq];constructor
 ·rintro⟨y,a,h⟩;rcases Oe.1 a with q|q
  ·exact .inl ⟨y,q,h⟩
  ·simp at q;subst q;rw[hk] at h;rw[str_inj h];exact .inr rfl
 ·rintro(⟨y,a,h⟩|h)
  ·exact⟨y,List.mem_append_left _ a,h⟩
  ·exact⟨e,by simp,by rw[hk,gJ h]⟩
def ow (s:Dk)(e:MapEntry):List Int:=match fN e.key with|some n=>(match s.idx n with|some i=>(s.file i).log.map (·.no)|none=>[])|none=>[]
theorem Gw {α:Type}(l:List α):(l.map λ_=>0).sum=0:=by
 induction l with
 |nil=>rfl
 |cons a l b=>simpa using b
theorem BD {α:Type}(f:α->Nat):∀(l es:List α),l.Nodup->(∀y∈l,y∈es)->(l.map f).sum<=(es.map f).sum
 |[],es,_,_=>by simp
 |a::l,es,b,hs=>by
   obtain⟨s,t,rfl⟩:=List.append_of_mem (hs a List.mem_cons_self);rw[List.nodup_cons] at b;have:=BD f l (s++t) b.2 (λy c=>by
    have:=hs y (List.mem_cons_of_mem _ c);rw[Oe,List.mem_cons] at this;rw[Oe];rcases this with h|h|h
    ·exact .inl h
    ·subst h;exact absurd c b.1
    ·exact .inr h)
   simp only[Ox,Ph,OO,Un] at this ⊢;omega
theorem BQ {α:Type}(f g:α->Nat):∀(l:List α) (i:Nat) (a:α),l[i]?=some a->(∀j b,l[j]?=some b->j≠i->g b=f b)->(l.map g).sum+f a=(l.map f).sum+g a
 |[],i,a,h,_=>by simp at h
 |x::l,0,a,h,hs=>by
   simp at h;subst h;have:l.map g=l.map f:=by
    apply QQ;intro b d;obtain⟨j,c⟩:=Oh.1 d;exact hs (j+1) b (by simpa using c) (by omega)
   simp only[Ox,Ph,this];omega
 |x::l,i+1,a,h,hs=>by
   have h1:=BQ f g l i a (by simpa using h) (λj b c e=>hs (j+1) b (by simpa using c) (by omega));have k:=hs 0 x rfl (by omega);simp only[Ox,Ph];omega
theorem aW.perm {H:aa}{x:DG}{s:Dk}(h:aW H x s.files)(hw:s.WF):(x.es.toList.map (·.key)).Perm (s.files.map λf=>PA f.name):=by
 have a:(s.files.map λf=>PA f.name).Nodup:=by
  have:=hw.nodup;unfold List.Nodup at this ⊢;rw[List.pairwise_map] at this ⊢;exact this.imp λb e=>b (by rw[str_inj e])
 rw[List.perm_ext_iff_of_nodup h.map.stamped.2.2 a];intro k;constructor
 ·intro hk;obtain⟨e,he,rfl⟩:=Ol.1 hk;obtain⟨i,f,g,h1,c,d,l⟩:=h.ent' e.key e.val ⟨e,he,rfl,rfl⟩;rw[d];exact Ol.2 ⟨f,N9 h1,rfl⟩
 ·intro hk;obtain⟨f,j,rfl⟩:=Ol.1 hk;obtain⟨i,hi⟩:=Oh.1 j;obtain⟨g,_,⟨e,he,h1,c⟩,_⟩:=h.BG hi;exact Ol.2 ⟨e,he,h1⟩
theorem yL {H:aa}{x:DG}{s:Dk}(h:aW H x s.files)(hw:s.WF){l:List MapEntry}(hl:l.Perm x.es.toList):(l.flatMap (ow s)).Perm s.G3:=by
 have h1:((x.es.toList.map (·.key)).flatMap λk=>match fN k with|some n=>(match s.idx n with|some i=>(s.file i).log.map (·.no)|none=>[])|none=>[]).Perm ((s.files.map λf=>PA f.name).flatMap λk=>match fN k with|some n=>(match s.idx n with|some i=>(s.file i).log.map (·.no)|none=>[])|none=>[]):=U7 _ (h.perm hw);rw[V2,V2] at h1;have a:(s.files.flatMap λf=>match fN (PA f.name) with|some n=>(match s.idx n with|some i=>(s.file i).log.map (·.no)|none=>[])|none=>[])=s.G3:=by
  unfold Dk.G3;rw[V3,V3];congr 1;apply QQ;intro f b;obtain⟨i,hi⟩:=Oh.1 b;simp only[fN,Dk.idx_eq hw hi,Dk.du hi]
 rw[a] at h1;exact(U7 _ hl).trans h1
theorem Dk.ka (s:Dk):s.G3.length=s.aB:=by
 unfold Dk.G3 Dk.aB;rw[TO];simp
theorem Dk.ED {s:Dk}{L:List Int}(a:L.Perm s.G3)(f:Fl):rP (λw=>jd s.keep (L.filter λx=>decide (x<w.no)).length) f=s.after f:=by
 have:∀no:Int,(L.filter λx=>decide (x<no)).length=s.xC no:=λno=>by
  unfold Dk.xC;exact(a.filter _).length_eq
 unfold rP Dk.after;congr 2;apply List.filter_congr;intro w _;rw[this]
theorem Dk.yz (s:Dk)(f:Fl):(s.after f).aq.length<=f.aq.length:=by
 show (((f.log.filter _).foldl dN f.synced)).length<=_;exact vn f.log _ f.synced f.synced (Nat.le_refl _)
set_option maxHeartbeats 1000000 in
theorem Ak {F:Nat->Prop}{d:Nat}{s:Dk}{H:aa}{K:Unit->aa->Prop}(h:bo F H d s)(dD:s.aB<68719476736)
  (hK:∀F' H',bo F' H' d s.cS->Step F F' H H'->K () H'):JM.sp (aE d) H K:=by
 have h0:=h;obtain⟨x,cin,kp,g,hF⟩:=h;refine JM.of ?_;unfold JM.vc;simp only[al,add_add,Nat.reduceAdd];refine aC rfl ?_;refine g.head.ld (c:=ay) (i:=9) (x:=s.down) rfl ?_;refine ah (λhd=>?_) (λhd=>?_)
 ·have B:s.down=false:=by simpa using hd
  have e:s.cS=s:=by unfold Dk.cS;rw[B];rfl
  rw[e] at hK;exact hK F H h0 (.refl _ _)
 have B:s.down=true:=by simpa using hd
 obtain⟨ci,kk,b4⟩:∃ci kk,s.crash=some (ci,kk):=by
  have:=g.wf.down B;cases hc:s.crash with
  |none=>rw[hc] at this;cases this
  |some p=>exact⟨p.1,p.2,rfl⟩
 obtain⟨rfl,rfl⟩:=g.crash ci kk b4;have bB:s.keep=kp:=by unfold Dk.keep;rw[b4]
 have an:=di.lO g.head g.files;have ew:d<H.size:=aA g.head;refine g.head.ld (c:=bT) (i:=0) (x:=some x.m) rfl ?_;obtain⟨et,inf,hu,_,_,_⟩:=lH;have dT:=g.files.map.stamped;refine py hu g.files.map λH1 b5 e1=>?_;have er:H.size<H1.size:=aA b5;have I:=g.files.keep (H':=H1) λb n hl=>e1.same b hl id;refine qd (it:=H.size) (λl z A=>az EI ib A z (l.flatMap (ow s))/\Mod (λb=>b=H.size) H1 A/\(∀b,ag z b->H1.size<=b)) I.map b5 ⟨az.nil _ _ _,.refl _ _,by rintro b ⟨ad,q,_⟩;cases q⟩ ?_ ?_ ?_
 ·rintro l z A A' ⟨o,m,f⟩ hm hs;refine⟨o.keep λb n hl=>hm.same b hl (by have:=f b n;omega),m.trans hm,f⟩
 ·rintro l e z A next ⟨o,m,f⟩ he bC Q b6 D R E
  obtain⟨i,fl,M,q1,q2,q3,q4⟩:=g.files.ent' e.key e.val ⟨e,he,rfl,rfl⟩;have bb:ow s e=fl.log.map (·.no):=by
   unfold ow;rw[q3];simp[fN,Dk.idx_eq g.wf q1,Dk.du q1]
  refine⟨aE M.p,by rw[q4];rfl,?_⟩;have b7:∀b,M.fp b->b<H.size:=λb n=>g.files.lt b (.inr ⟨M,N9 q2,n⟩);have S:cC A M fl:=(I.ent i fl M q1 q2).2.keep λb n hl=>m.same b hl (by have:=b7 b n;omega);refine S.row.ld (c:=ak) (i:=2) (x:=M.log) rfl ?_;have eu:(l.flatMap (ow s)).length+fl.log.length<=s.aB:=by
   have h1:=BD (λe=>(ow s e).length) (l++[e]) x.es.toList (by
    rw[List.nodup_append];exact⟨b6,by simp,by intro a ha b n;simp at n;subst n;intro e2;subst e2;exact bC ha⟩) (by
    intro y hy;rcases Oe.1 hy with q|q
    ·exact Q y q
    ·simp at q;subst q;exact he)
   have h2:=(yL g.files g.wf (List.Perm.refl x.es.toList)).length_eq;rw[TO,Dk.ka] at h2;rw[OO,Un] at h1;simp only[Ox,List.map_nil,Ph,List.sum_nil,bb,List.length_map] at h1;rw[TO];omega
  refine zk S.log o (by omega) λz' A' o' g'=>?_;have ea:=aA D;refine E z' A' ⟨?_,?_,?_⟩ ?_ ?_
  ·rw[List.flatMap_append];simpa[bb] using o'
  ·refine⟨Oo m.size g'.1.size,λb n T=>(g'.1.same b (by have:=m.size;omega) λhh=>?_).trans (m.same b n T)⟩;have:=f b hh;omega
  ·intro b n;rcases g'.2 b n with q|q
   ·exact f b q
   ·have:=m.size;omega
  ·exact g'.1.same _ ea λhh=>by have:=f _ hh;have:=g.files.map.lt;omega
  ·obtain⟨o,ho⟩:=R;exact g'.1.same _ (aA ho) λhh=>by have:=f _ hh;omega
 ·rintro l z H3 ⟨oz,m3,fz⟩ bD _;have b9:=yL g.files g.wf bD;have ey:(l.flatMap (ow s)).length=s.aB:=by rw[b9.length_eq,Dk.ka]
  refine yl oz (by omega) λH4 cb m4=>?_;obtain⟨L,hL⟩:∃L,L=(l.flatMap (ow s)).mergeSort λx y=>decide (x<=y):=⟨_,rfl⟩;rw[<-hL] at cb;have ck:L.Perm s.G3:=by rw[hL];exact(List.mergeSort_perm _ _).trans b9
  have eb:L.Pairwise (·<=·):=by
   have:=List.pairwise_mergeSort (le:=λx y:Int=>decide (x<=y)) (λa b c h1 h2=>by simp at h1 h2 ⊢;omega) (λa b=>by simp;omega) (l.flatMap (ow s));rw[hL];exact this.imp λh=>by simpa using h
  have eA:L.length=s.aB:=by rw[ck.length_eq,Dk.ka]
  -- up to here all that was there lies as it lay
  have e4:Mod (λ_=>False) H H4:=by
   have z1:=e1.size;have z2:=m3.size;have z3:=m4.size;refine⟨by omega,λb n _=>(m4.same b (by omega) λhh=>?_).trans ((m3.same b (by omega) (by omega)).trans (e1.same b n id))⟩;have:=fz b hh;omega
  have cm:∀b,ag z b->H.size<=b:=λb n=>by have:=fz b n;omega
  have d4:=g.head.ext e4;refine d4.st (i:=1) (by simp[fi]) (by rfl) λH5 d5 m5 s5=>?_;have cx:aj H5 d xp (fi x.m 0 s.most s.quota s.ops s.next s.crash.isSome cin kp s.down):=d5;refine cx.ld (c:=bT) (i:=0) (x:=some x.m) rfl ?_;have bM:Mod (λb=>b=d) H H5:=(Ext.mod e4).trans m5;have r:aW H5 x s.files:=g.files.keep λb n hl=>bM.same b hl λe=>an (e▸n);have z5:az EI ib H5 z L:=cb.keep λb n hl=>m5.same b hl (by have:=cm b n;omega);have cy:=z5.lt;have ev:=bM.size;refine py hu r.map λH6 bd e6=>?_;have ec:H5.size<H6.size:=aA bd;obtain⟨C,bO⟩:∃C:Fl->Fl,C=λf=>rP (λw=>jd kp (L.filter λx=>decide (x<w.no)).length) f:=⟨_,rfl⟩;have U:∀f,C f=s.after f:=λf=>by rw[bO,<-bB];exact Dk.ED ck f
  have bl:∀f,(C f).name=f.name:=λf=>by rw[bO];rfl
  have cz:∀f,(C f).aq.length<=f.aq.length:=λf=>by rw[U];exact s.yz f
  obtain⟨up,N⟩:∃up:List MapEntry->Fl->Fl,up=λl f=>if fI l f.name then C f else f:=⟨_,rfl⟩
  obtain⟨us,a1⟩:∃us:List MapEntry->Nat,us=λl=>(s.files.map λf=>if fI l f.name then (C f).aq.length else 0).sum:=⟨_,rfl⟩;have V:∀l,us l<=s.used:=λl=>by
   rw[a1];refine nE _ _ _ λf _=>?_;split
   ·exact cz f
   ·exact Nat.zero_le _
  have w1:=g.wf.used;have w2:=g.wf.most;have w3:=g.wf.quota;have bn:∀b,x.fp b->b<H.size:=g.files.lt;refine qd (it:=H5.size) (λl _ A=>∃gs,aW A ⟨x.m,x.es,x.clk,gs⟩ (s.files.map (up l))/\aj A d xp (fi x.m (us l:Nat) s.most s.quota s.ops s.next s.crash.isSome cin kp s.down)/\Mod (λb=>(b=d\/x.fp b)\/b=H5.size) H6 A/\(∀b,DG.fp ⟨x.m,x.es,x.clk,gs⟩ b->x.fp b\/H6.size<=b)/\az EI ib A z L) (r.keep λb n hl=>e6.same b hl id).map bd ?_ ?_ ?_ ?_
  ·refine⟨x.gs,?_,?_,.refl _ _,λb n=>.inl n,z5.ext e6⟩
   ·have e:s.files.map (up [])=s.files:=by rw[N];simp[fI]
    rw[e];exact r.keep λb n hl=>e6.same b hl id
   ·have e:us []=0:=by
     rw[a1];show (s.files.map λf=>if fI [] f.name then (C f).aq.length else 0).sum=0;have:(s.files.map λf=>if fI [] f.name then (C f).aq.length else 0)=s.files.map λ_=>0:=by simp[fI]
     rw[this];exact Gw _
    rw[e];exact cx.ext e6
  ·rintro l _ A A' ⟨gs,X,dA,Y,Z,zA⟩ hm hs;refine⟨gs,X.keep λb n hl=>hm.same b hl ?_,dA.mod hm (by omega),Y.trans (hm.mono λb _ e=>.inr e),Z,zA.keep λb n hl=>hm.same b hl (by have:=cy b n;omega)⟩;intro e;rcases Z b n with q|q
   ·have:=bn b q;omega
   ·omega
  ·rintro l e ⟨⟩ A next ⟨gs,X,dA,Y,Z,zA⟩ he bC Q b6 D R E
   obtain⟨i,f1,M,q1,q2,q3,q4⟩:=X.ent' e.key e.val ⟨e,he,rfl,rfl⟩;rw[Oi] at q1;obtain⟨fl,G,b0⟩:∃fl,s.files[i]?=some fl/\up l fl=f1:=by
    cases hq:s.files[i]? with
    |none=>rw[hq] at q1;cases q1
    |some fl=>rw[hq] at q1;exact⟨fl,rfl,by simpa using q1⟩
   have cB:∀l f,(up l f).name=f.name:=λl f=>by rw[N];simp only;split;exact bl f;rfl
   have bs:e.key=.string fl.name:=by rw[q3,<-b0,cB]
   have bx:fI l fl.name=false:=by
    cases hq:fI l fl.name with
    |false=>rfl
    |true=>
      obtain⟨e',c0,ed⟩:=mn.1 hq;have:=xE dT (Q e' c0) he (by rw[ed,bs]);subst this;exact absurd c0 bC
   have c3:f1=fl:=by rw[<-b0,N];simp only;rw[bx];rfl
   subst c3;have c4:(s.files.map (up l))[i]?=some f1:=by rw[Oi,G];simp[b0]
   have S:=(X.ent i f1 M c4 q2).2;have a6:=N9 q2;have ee:¬M.fp d:=by
    intro n;rcases Z d (.inr ⟨M,a6,n⟩) with q|q
    ·exact an q
    ·omega
   refine⟨aE M.p,by rw[q4];rfl,?_⟩;simp only[al];have eB:=Dk.eQ G;have eC:=Dk.j6 G;refine HH S dA zA eb (by omega) (by omega) (by omega) ee λc5 A' eg dc B O ei=>?_;have dk:rP (λw=>jd kp (L.filter λx=>decide (x<w.no)).length) f1=C f1:=by rw[bO]
   rw[dk] at dc B;have u:∀f:Fl,fI (l++[e]) f.name=(fI l f.name||(f.name.toList==f1.name.toList)):=by
    intro f;exact Aq bs
   have J:∀(j:Nat) (f:Fl),s.files[j]?=some f->j≠i->(f.name.toList==f1.name.toList)=false:=by
    intro j f hj P;cases hq:(f.name.toList==f1.name.toList) with
    |false=>rfl
    |true=>exact absurd (g.wf.inj hj G (gJ (by simpa using hq))) P
   obtain⟨fB,oB⟩:=X.Lr (H':=A') c4 q2 (f':=C f1) (g':=c5) eg (bl f1) dc (λb n T hl=>O.same b hl (by
    rintro(h|h)
    ·exact T h
    ·subst h;rcases Z b n with q|q
     ·exact an q
     ·omega)) ei
   have a7:(s.files.map (up l)).set i (C f1)=s.files.map (up (l++[e])):=by
    apply List.ext_getElem?;intro j;rw[List.getElem?_set];by_cases b1:i=j
    ·subst b1;have ej:=(List.getElem?_eq_some_iff.1 G).1;rw[if_pos rfl,if_pos (by simpa using ej),Oi,G];simp only[Q7];rw[N];simp only[u];simp
    ·rw[if_neg b1,Oi,Oi];cases hj:s.files[j]? with
     |none=>rfl
     |some f=>
       simp only[Q7];rw[N];simp only[u,J j f hj (Ne.symm b1),Vt]
   rw[a7] at fB;have dm:us (l++[e])=us l+(C f1).aq.length:=by
    have:=BQ (λf:Fl=>if fI l f.name then (C f).aq.length else 0) (λf:Fl=>if fI (l++[e]) f.name then (C f).aq.length else 0) s.files i f1 G (λj f hj P=>by
     simp only[u,J j f hj P,Vt])
    have hg:fI (l++[e]) f1.name=true:=by rw[u];simp
    simp only[bx,hg,if_true,Bool.false_eq_true,if_false,Nat.add_zero] at this;rw[a1];exact this
   have b2:N6.wrap ((us l:Int)+((C f1).aq.length:Int))=((us (l++[e]):Nat):Int):=by
    have:=V (l++[e]);rw[wrap64 (by omega) (by omega),dm];omega
   rw[b2] at B;have ek:az EI ib A' z L:=zA.keep λb n hl=>O.same b hl (by
    rintro(h|h)
    ·obtain⟨c,t,q,ht⟩:=S.obj b h;obtain⟨c2,q2⟩:=zA.obj b n;rw[aF q q2] at ht;exact absurd ht (by decide)
    ·have:=cm b n;omega)
   refine E () A' ⟨gs.set i c5,fB,B,?_,?_,ek⟩ ?_ ?_
   ·refine⟨Oo Y.size O.size,λb n T=>(O.same b (by have:=Y.size;omega) ?_).trans (Y.same b n T)⟩;rintro(h|h)
    ·rcases Z b (.inr ⟨M,a6,h⟩) with q|q
     ·exact T (.inl (.inr q))
     ·omega
    ·exact T (.inl (.inl h))
   ·intro b n;rcases oB b n with q|q
    ·exact Z b q
    ·have:=Y.size;omega
   ·refine O.same _ (aA D) ?_;rintro(h|h)
    ·exact X.wv a6 h
    ·exact an (.inl h.symm)
   ·obtain⟨o,ho⟩:=R;refine O.same _ (aA ho) ?_;rintro(h|h)
    ·rcases Z _ (.inr ⟨M,a6,h⟩) with q|q
     ·have:=bn _ q;omega
     ·omega
    ·omega
  ·rintro l2 ⟨⟩ A ⟨gs,X,dA,Y,Z,zA⟩ a8 _;have bA:∀f∈s.files,fI l2 f.name=true:=by
    intro f hf;obtain⟨i,hi⟩:=Oh.1 hf;obtain⟨g0,_,⟨e,he,h1,_⟩,_⟩:=g.files.BG hi;exact mn.2 ⟨e,a8.mem_iff.2 he,h1⟩
   have hmap:s.files.map (up l2)=s.files.map s.after:=by
    apply QQ;intro f hf;rw[N];simp only[bA f hf,if_true];exact U f
   rw[hmap] at X;have D:s.cS={s with files:=s.files.map s.after,down:=false,crash:=none}:=by unfold Dk.cS;rw[B];rfl
   have dn:(s.files.map λf=>if fI l2 f.name then (C f).aq.length else 0)=(s.files.map s.after).map λf=>f.aq.length:=by
    rw[Py];apply QQ;intro f hf;rw[if_pos (bA f hf),U,Function.comp_apply]
   have W:us l2=s.cS.used:=by
    rw[D];unfold Dk.used;rw[<-dn,a1]
   refine dA.st (i:=9) (by simp[fi]) (by rfl) λA1 d1 m1 s1=>?_;have en:aj A1 d xp (fi x.m (us l2:Nat) s.most s.quota s.ops s.next s.crash.isSome cin kp false):=d1;refine ja (b:=d) (o:=6) (t:=xp) en (by kernel_rfl) (by simp[fi]) (by intro v hv;simp at hv;rcases hv with rfl|rfl|rfl<;>rfl) λA2 d2 m2 s2=>?_;have eo:=di.lO dA X;have b3:Mod (λb=>b=d) A A2:=m1.trans m2;have gg:di ⟨x.m,x.es,x.clk,gs⟩ 0 0 A2 d s.cS:=by
    refine⟨?_,?_,?_,?_⟩
    ·rw[<-W];rw[D];exact d2
    ·rw[D];intro i k q;cases q
    ·rw[D];exact X.keep λb n hl=>b3.same b hl λe=>eo (e▸n)
    ·have hu2:=V l2;refine⟨?_,by rw[<-W,D];show us l2<=s.most;omega,by rw[D];exact w2,by rw[D];exact w3,by rw[D];simp;exact g.wf.files,(by rw[D];intro h;cases h),(by rw[D];intro i k q;cases q)⟩;rw[D];simp only[Py];exact g.wf.nodup
   have dB:Mod F H A2:=by
    have t1:Mod F H H6:=(bM.mono λb _ e=>(hF b).2 (.inl e)).trans (Ext.mod e6);have z6:=e6.size;refine⟨by have:=Y.size;have:=b3.size;omega,λb n T=>?_⟩;have P:b≠d:=λe=>T ((hF b).2 (.inl e));have ep:¬x.fp b:=λe=>T ((hF b).2 (.inr e));refine(b3.same b (by have:=Y.size;omega) P).trans ((Y.same b (by omega) ?_).trans (t1.same b n T));rintro((h|h)|h)
    ·exact P h
    ·exact ep h
    ·omega
   obtain⟨F',r1,r2⟩:=gg.out (x:=x) (F:=F) (H:=H) hF dB (λb n=>(Z b n).imp id (λq=>by have:=e6.size;omega));exact hK F' A2 r1 r2
end Go.Proofs.YtmkbhnholcaghaaGreatDoor
