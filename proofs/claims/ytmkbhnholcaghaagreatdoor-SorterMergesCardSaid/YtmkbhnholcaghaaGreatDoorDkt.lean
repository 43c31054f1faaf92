/-
 The disk: Restart.
-/
import Derived.Test.YtmkbhnholcaghaaGreatDoorDkr
open Bool renaming or_false->VI
open Go.IntKind renaming i64->Ol
open Go.Value renaming string->PQ
open List renaming mem_of_getElem?->Oo,mem_append->Ox,getElem?_map->Oy,mem_iff_getElem?->Oz,mem_map->OC,map_cons->OJ,map_append->O8,sum_cons->Py,map_map->PN,map_congr_left->Q5,length_flatMap->T3,sum_append->UB,flatMap_map->Wg,flatMap_def->Wh
open List.Perm renaming flatMap_right->Vn
open Nat renaming le_trans->OE
open Option renaming map_some->Q2
namespace Go.Proofs.YtmkbhnholcaghaaGreatDoor
open Go.MapKept
def fR (v:Value):Option ByteArray:=match v with|.string n=>some n|_=>none
def fM (l:List MapEntry)(n:ByteArray):Bool:=l.any λe=>match fR e.key with|some m=>m.toList==n.toList|none=>false
theorem mM {l:List MapEntry}{n:ByteArray}:fM l n=true↔∃e∈l,e.key=.string n:=by
 unfold fM;rw[List.any_eq_true];constructor
 ·rintro⟨e,he,h⟩;refine⟨e,he,?_⟩;cases hk:e.key<;>rw[hk] at h<;>simp[fR] at h;rw[gM h]
 ·rintro⟨e,he,h⟩;exact⟨e,he,by rw[h];simp[fR]⟩
theorem AE {l:List MapEntry}{e:MapEntry}{m n:ByteArray}(hk:e.key=.string m):fM (l++[e]) n=(fM l n||(n.toList==m.toList)):=by
 rw[Bool.eq_iff_iff,Bool.or_eq_true,mM,mM,beq_iff_eq];constructor
 ·rintro⟨y,a,h⟩;rcases Ox.1 a with q|q
  ·exact .inl ⟨y,q,h⟩
  ·simp at q;subst q;rw[hk] at h;rw[str_inj h];exact .inr rfl
 ·rintro(⟨y,a,h⟩|h)
  ·exact⟨y,List.mem_append_left _ a,h⟩
  ·exact⟨e,by simp,by rw[hk,gM h]⟩
def oI (s:Dk)(e:MapEntry):List Int:=match fR e.key with|some n=>(match s.idx n with|some i=>(s.file i).log.map (·.no)|none=>[])|none=>[]
theorem GG {α:Type}(l:List α):(l.map λ_=>0).sum=0:=by
 induction l with
 |nil=>rfl
 |cons a l b=>simpa using b
theorem BQ {α:Type}(f:α->Nat):∀(l es:List α),l.Nodup->(∀y∈l,y∈es)->(l.map f).sum<=(es.map f).sum
 |[],es,_,_=>by simp
 |a::l,es,b,hs=>by
   obtain⟨s,t,rfl⟩:=List.append_of_mem (hs a List.mem_cons_self);rw[List.nodup_cons] at b;have:=BQ f l (s++t) b.2 (λy c=>by
    have:=hs y (List.mem_cons_of_mem _ c);rw[Ox,List.mem_cons] at this;rw[Ox];rcases this with h|h|h
    ·exact .inl h
    ·subst h;exact absurd c b.1
    ·exact .inr h)
   simp only[OJ,Py,O8,UB] at this ⊢;omega
theorem Cd {α:Type}(f g:α->Nat):∀(l:List α) (i:Nat) (a:α),l[i]?=some a->(∀j b,l[j]?=some b->j≠i->g b=f b)->(l.map g).sum+f a=(l.map f).sum+g a
 |[],i,a,h,_=>by simp at h
 |x::l,0,a,h,hs=>by
   simp at h;subst h;have:l.map g=l.map f:=by
    apply Q5;intro b d;obtain⟨j,c⟩:=Oz.1 d;exact hs (j+1) b (by simpa using c) (by omega)
   simp only[OJ,Py,this];omega
 |x::l,i+1,a,h,hs=>by
   have h1:=Cd f g l i a (by simpa using h) (λj b c e=>hs (j+1) b (by simpa using c) (by omega));have k:=hs 0 x rfl (by omega);simp only[OJ,Py];omega
theorem aX.perm {H:aa}{x:DG}{s:Dk}(h:aX H x s.files)(hw:s.WF):(x.es.toList.map (·.key)).Perm (s.files.map λf=>PQ f.name):=by
 have a:(s.files.map λf=>PQ f.name).Nodup:=by
  have:=hw.nodup;unfold List.Nodup at this ⊢;rw[List.pairwise_map] at this ⊢;exact this.imp λb e=>b (by rw[str_inj e])
 rw[List.perm_ext_iff_of_nodup h.map.stamped.2.2 a];intro k;constructor
 ·intro hk;obtain⟨e,he,rfl⟩:=OC.1 hk;obtain⟨i,f,g,h1,c,d,l⟩:=h.ent' e.key e.val ⟨e,he,rfl,rfl⟩;rw[d];exact OC.2 ⟨f,Oo h1,rfl⟩
 ·intro hk;obtain⟨f,j,rfl⟩:=OC.1 hk;obtain⟨i,hi⟩:=Oz.1 j;obtain⟨g,_,⟨e,he,h1,c⟩,_⟩:=h.BT hi;exact OC.2 ⟨e,he,h1⟩
theorem yW {H:aa}{x:DG}{s:Dk}(h:aX H x s.files)(hw:s.WF){l:List MapEntry}(hl:l.Perm x.es.toList):(l.flatMap (oI s)).Perm s.G8:=by
 have h1:((x.es.toList.map (·.key)).flatMap λk=>match fR k with|some n=>(match s.idx n with|some i=>(s.file i).log.map (·.no)|none=>[])|none=>[]).Perm ((s.files.map λf=>PQ f.name).flatMap λk=>match fR k with|some n=>(match s.idx n with|some i=>(s.file i).log.map (·.no)|none=>[])|none=>[]):=Vn _ (h.perm hw);rw[Wg,Wg] at h1;have a:(s.files.flatMap λf=>match fR (PQ f.name) with|some n=>(match s.idx n with|some i=>(s.file i).log.map (·.no)|none=>[])|none=>[])=s.G8:=by
  unfold Dk.G8;rw[Wh,Wh];congr 1;apply Q5;intro f b;obtain⟨i,hi⟩:=Oz.1 b;simp only[fR,Dk.idx_eq hw hi,Dk.dw hi]
 rw[a] at h1;exact(Vn _ hl).trans h1
theorem Dk.ks (s:Dk):s.G8.length=s.aB:=by
 unfold Dk.G8 Dk.aB;rw[T3];simp
theorem Dk.ET {s:Dk}{L:List Int}(a:L.Perm s.G8)(f:Fl):rZ (λw=>jh s.keep (L.filter λx=>decide (x<w.no)).length) f=s.after f:=by
 have:∀no:Int,(L.filter λx=>decide (x<no)).length=s.xM no:=λno=>by
  unfold Dk.xM;exact(a.filter _).length_eq
 unfold rZ Dk.after;congr 2;apply List.filter_congr;intro w _;rw[this]
theorem Dk.yK (s:Dk)(f:Fl):(s.after f).aq.length<=f.aq.length:=by
 show (((f.log.filter _).foldl dP f.synced)).length<=_;exact vz f.log _ f.synced f.synced (Nat.le_refl _)
set_option maxHeartbeats 1000000 in
theorem Ax {F:Nat->Prop}{d:Nat}{s:Dk}{H:aa}{K:Unit->aa->Prop}(h:bo F H d s)(dB:s.aB<68719476736)
  (hK:∀F' H',bo F' H' d s.cU->Step F F' H H'->K () H'):JR.sp (aE d) H K:=by
 have h0:=h;obtain⟨x,cin,kp,g,hF⟩:=h;refine JR.of ?_;unfold JR.vc;simp only[al,add_add,Nat.reduceAdd];refine aC rfl ?_;refine g.head.ld (c:=ay) (i:=9) (x:=s.down) rfl ?_;refine ag (λhd=>?_) (λhd=>?_)
 ·have B:s.down=false:=by simpa using hd
  have e:s.cU=s:=by unfold Dk.cU;rw[B];rfl
  rw[e] at hK;exact hK F H h0 (.refl _ _)
 have B:s.down=true:=by simpa using hd
 obtain⟨ci,kk,b3⟩:∃ci kk,s.crash=some (ci,kk):=by
  have:=g.wf.down B;cases hc:s.crash with
  |none=>rw[hc] at this;cases this
  |some p=>exact⟨p.1,p.2,rfl⟩
 obtain⟨rfl,rfl⟩:=g.crash ci kk b3;have bB:s.keep=kp:=by unfold Dk.keep;rw[b3]
 have an:=dj.lV g.head g.files;have ev:d<H.size:=aA g.head;refine g.head.ld (c:=bU) (i:=0) (x:=some x.m) rfl ?_;obtain⟨et,inf,hu,_,_,_⟩:=lO;have dD:=g.files.map.stamped;refine pJ hu g.files.map λH1 b4 e1=>?_;have ep:H.size<H1.size:=aA b4;have I:=g.files.keep (H':=H1) λb n hl=>e1.same b hl id;refine qo (it:=H.size) (λl z A=>az EI iH A z (l.flatMap (oI s))/\Mod (λb=>b=H.size) H1 A/\(∀b,ah z b->H1.size<=b)) I.map b4 ⟨az.nil _ _ _,.refl _ _,by rintro b ⟨ad,q,_⟩;cases q⟩ ?_ ?_ ?_
 ·rintro l z A A' ⟨o,m,f⟩ hm hs;refine⟨o.keep λb n hl=>hm.same b hl (by have:=f b n;omega),m.trans hm,f⟩
 ·rintro l e z A next ⟨o,m,f⟩ he bC Q b5 D R E
  obtain⟨i,fl,M,q1,q2,q3,q4⟩:=g.files.ent' e.key e.val ⟨e,he,rfl,rfl⟩;have bb:oI s e=fl.log.map (·.no):=by
   unfold oI;rw[q3];simp[fR,Dk.idx_eq g.wf q1,Dk.dw q1]
  refine⟨aE M.p,by rw[q4];rfl,?_⟩;have b6:∀b,M.fp b->b<H.size:=λb n=>g.files.lt b (.inr ⟨M,Oo q2,n⟩);have S:cD A M fl:=(I.ent i fl M q1 q2).2.keep λb n hl=>m.same b hl (by have:=b6 b n;omega);refine S.row.ld (c:=ak) (i:=2) (x:=M.log) rfl ?_;have er:(l.flatMap (oI s)).length+fl.log.length<=s.aB:=by
   have h1:=BQ (λe=>(oI s e).length) (l++[e]) x.es.toList (by
    rw[List.nodup_append];exact⟨b5,by simp,by intro a ha b n;simp at n;subst n;intro e2;subst e2;exact bC ha⟩) (by
    intro y hy;rcases Ox.1 hy with q|q
    ·exact Q y q
    ·simp at q;subst q;exact he)
   have h2:=(yW g.files g.wf (List.Perm.refl x.es.toList)).length_eq;rw[T3,Dk.ks] at h2;rw[O8,UB] at h1;simp only[OJ,List.map_nil,Py,List.sum_nil,bb,List.length_map] at h1;rw[T3];omega
  refine zv S.log o (by omega) λz' A' o' g'=>?_;have dT:=aA D;refine E z' A' ⟨?_,?_,?_⟩ ?_ ?_
  ·rw[List.flatMap_append];simpa[bb] using o'
  ·refine⟨OE m.size g'.1.size,λb n T=>(g'.1.same b (by have:=m.size;omega) λhh=>?_).trans (m.same b n T)⟩;have:=f b hh;omega
  ·intro b n;rcases g'.2 b n with q|q
   ·exact f b q
   ·have:=m.size;omega
  ·exact g'.1.same _ dT λhh=>by have:=f _ hh;have:=g.files.map.lt;omega
  ·obtain⟨o,ho⟩:=R;exact g'.1.same _ (aA ho) λhh=>by have:=f _ hh;omega
 ·rintro l z H3 ⟨oz,m3,fz⟩ bD _;have b7:=yW g.files g.wf bD;have ew:(l.flatMap (oI s)).length=s.aB:=by rw[b7.length_eq,Dk.ks]
  refine yA oz (by omega) λH4 b9 m4=>?_;obtain⟨L,hL⟩:∃L,L=(l.flatMap (oI s)).mergeSort λx y=>decide (x<=y):=⟨_,rfl⟩;rw[<-hL] at b9;have cb:L.Perm s.G8:=by rw[hL];exact(List.mergeSort_perm _ _).trans b7
  have ea:L.Pairwise (·<=·):=by
   have:=List.pairwise_mergeSort (le:=λx y:Int=>decide (x<=y)) (λa b c h1 h2=>by simp at h1 h2 ⊢;omega) (λa b=>by simp;omega) (l.flatMap (oI s));rw[hL];exact this.imp λh=>by simpa using h
  have ey:L.length=s.aB:=by rw[cb.length_eq,Dk.ks]
  -- up to here all that was there lies as it lay
  have e4:Mod (λ_=>False) H H4:=by
   have z1:=e1.size;have z2:=m3.size;have z3:=m4.size;refine⟨by omega,λb n _=>(m4.same b (by omega) λhh=>?_).trans ((m3.same b (by omega) (by omega)).trans (e1.same b n id))⟩;have:=fz b hh;omega
  have ck:∀b,ah z b->H.size<=b:=λb n=>by have:=fz b n;omega
  have d4:=g.head.ext e4;refine d4.st (i:=1) (by simp[fm]) (by rfl) λH5 d5 m5 s5=>?_;have cm:aj H5 d xB (fm x.m 0 s.most s.quota s.ops s.next s.crash.isSome cin kp s.down):=d5;refine cm.ld (c:=bU) (i:=0) (x:=some x.m) rfl ?_;have bM:Mod (λb=>b=d) H H5:=(Ext.mod e4).trans m5;have r:aX H5 x s.files:=g.files.keep λb n hl=>bM.same b hl λe=>an (e▸n);have z5:az EI iH H5 z L:=b9.keep λb n hl=>m5.same b hl (by have:=ck b n;omega);have cx:=z5.lt;have eu:=bM.size;refine pJ hu r.map λH6 bd e6=>?_;have eb:H5.size<H6.size:=aA bd;obtain⟨C,bN⟩:∃C:Fl->Fl,C=λf=>rZ (λw=>jh kp (L.filter λx=>decide (x<w.no)).length) f:=⟨_,rfl⟩;have U:∀f,C f=s.after f:=λf=>by rw[bN,<-bB];exact Dk.ET cb f
  have bl:∀f,(C f).name=f.name:=λf=>by rw[bN];rfl
  have cy:∀f,(C f).aq.length<=f.aq.length:=λf=>by rw[U];exact s.yK f
  obtain⟨up,N⟩:∃up:List MapEntry->Fl->Fl,up=λl f=>if fM l f.name then C f else f:=⟨_,rfl⟩
  obtain⟨us,a1⟩:∃us:List MapEntry->Nat,us=λl=>(s.files.map λf=>if fM l f.name then (C f).aq.length else 0).sum:=⟨_,rfl⟩;have V:∀l,us l<=s.used:=λl=>by
   rw[a1];refine nN _ _ _ λf _=>?_;split
   ·exact cy f
   ·exact Nat.zero_le _
  have w1:=g.wf.used;have w2:=g.wf.most;have w3:=g.wf.quota;have bn:∀b,x.fp b->b<H.size:=g.files.lt;refine qo (it:=H5.size) (λl _ A=>∃gs,aX A ⟨x.m,x.es,x.clk,gs⟩ (s.files.map (up l))/\aj A d xB (fm x.m (us l:Nat) s.most s.quota s.ops s.next s.crash.isSome cin kp s.down)/\Mod (λb=>(b=d\/x.fp b)\/b=H5.size) H6 A/\(∀b,DG.fp ⟨x.m,x.es,x.clk,gs⟩ b->x.fp b\/H6.size<=b)/\az EI iH A z L) (r.keep λb n hl=>e6.same b hl id).map bd ?_ ?_ ?_ ?_
  ·refine⟨x.gs,?_,?_,.refl _ _,λb n=>.inl n,z5.ext e6⟩
   ·have e:s.files.map (up [])=s.files:=by rw[N];simp[fM]
    rw[e];exact r.keep λb n hl=>e6.same b hl id
   ·have e:us []=0:=by
     rw[a1];show (s.files.map λf=>if fM [] f.name then (C f).aq.length else 0).sum=0;have:(s.files.map λf=>if fM [] f.name then (C f).aq.length else 0)=s.files.map λ_=>0:=by simp[fM]
     rw[this];exact GG _
    rw[e];exact cm.ext e6
  ·rintro l _ A A' ⟨gs,X,dA,Y,Z,zA⟩ hm hs;refine⟨gs,X.keep λb n hl=>hm.same b hl ?_,dA.mod hm (by omega),Y.trans (hm.mono λb _ e=>.inr e),Z,zA.keep λb n hl=>hm.same b hl (by have:=cx b n;omega)⟩;intro e;rcases Z b n with q|q
   ·have:=bn b q;omega
   ·omega
  ·rintro l e ⟨⟩ A next ⟨gs,X,dA,Y,Z,zA⟩ he bC Q b5 D R E
   obtain⟨i,f1,M,q1,q2,q3,q4⟩:=X.ent' e.key e.val ⟨e,he,rfl,rfl⟩;rw[Oy] at q1;obtain⟨fl,G,bO⟩:∃fl,s.files[i]?=some fl/\up l fl=f1:=by
    cases hq:s.files[i]? with
    |none=>rw[hq] at q1;cases q1
    |some fl=>rw[hq] at q1;exact⟨fl,rfl,by simpa using q1⟩
   have cz:∀l f,(up l f).name=f.name:=λl f=>by rw[N];simp only;split;exact bl f;rfl
   have bs:e.key=.string fl.name:=by rw[q3,<-bO,cz]
   have bx:fM l fl.name=false:=by
    cases hq:fM l fl.name with
    |false=>rfl
    |true=>
      obtain⟨e',cB,ec⟩:=mM.1 hq;have:=xO dD (Q e' cB) he (by rw[ec,bs]);subst this;exact absurd cB bC
   have c0:f1=fl:=by rw[<-bO,N];simp only;rw[bx];rfl
   subst c0;have c3:(s.files.map (up l))[i]?=some f1:=by rw[Oy,G];simp[bO]
   have S:=(X.ent i f1 M c3 q2).2;have a6:=Oo q2;have ed:¬M.fp d:=by
    intro n;rcases Z d (.inr ⟨M,a6,n⟩) with q|q
    ·exact an q
    ·omega
   refine⟨aE M.p,by rw[q4];rfl,?_⟩;simp only[al];have eA:=Dk.eR G;have eB:=Dk.ki G;refine HO S dA zA ea (by omega) (by omega) (by omega) ed λc4 A' ee c5 B O eg=>?_;have dc:rZ (λw=>jh kp (L.filter λx=>decide (x<w.no)).length) f1=C f1:=by rw[bN]
   rw[dc] at c5 B;have u:∀f:Fl,fM (l++[e]) f.name=(fM l f.name||(f.name.toList==f1.name.toList)):=by
    intro f;exact AE bs
   have J:∀(j:Nat) (f:Fl),s.files[j]?=some f->j≠i->(f.name.toList==f1.name.toList)=false:=by
    intro j f hj P;cases hq:(f.name.toList==f1.name.toList) with
    |false=>rfl
    |true=>exact absurd (g.wf.inj hj G (gM (by simpa using hq))) P
   obtain⟨fB,oB⟩:=X.LA (H':=A') c3 q2 (f':=C f1) (g':=c4) ee (bl f1) c5 (λb n T hl=>O.same b hl (by
    rintro(h|h)
    ·exact T h
    ·subst h;rcases Z b n with q|q
     ·exact an q
     ·omega)) eg
   have a7:(s.files.map (up l)).set i (C f1)=s.files.map (up (l++[e])):=by
    apply List.ext_getElem?;intro j;rw[List.getElem?_set];by_cases b0:i=j
    ·subst b0;have ei:=(List.getElem?_eq_some_iff.1 G).1;rw[if_pos rfl,if_pos (by simpa using ei),Oy,G];simp only[Q2];rw[N];simp only[u];simp
    ·rw[if_neg b0,Oy,Oy];cases hj:s.files[j]? with
     |none=>rfl
     |some f=>
       simp only[Q2];rw[N];simp only[u,J j f hj (Ne.symm b0),VI]
   rw[a7] at fB;have dk:us (l++[e])=us l+(C f1).aq.length:=by
    have:=Cd (λf:Fl=>if fM l f.name then (C f).aq.length else 0) (λf:Fl=>if fM (l++[e]) f.name then (C f).aq.length else 0) s.files i f1 G (λj f hj P=>by
     simp only[u,J j f hj P,VI])
    have hg:fM (l++[e]) f1.name=true:=by rw[u];simp
    simp only[bx,hg,if_true,Bool.false_eq_true,if_false,Nat.add_zero] at this;rw[a1];exact this
   have b1:Ol.wrap ((us l:Int)+((C f1).aq.length:Int))=((us (l++[e]):Nat):Int):=by
    have:=V (l++[e]);rw[wrap64 (by omega) (by omega),dk];omega
   rw[b1] at B;have ej:az EI iH A' z L:=zA.keep λb n hl=>O.same b hl (by
    rintro(h|h)
    ·obtain⟨c,t,q,ht⟩:=S.obj b h;obtain⟨c2,q2⟩:=zA.obj b n;rw[aG q q2] at ht;exact absurd ht (by decide)
    ·have:=ck b n;omega)
   refine E () A' ⟨gs.set i c4,fB,B,?_,?_,ej⟩ ?_ ?_
   ·refine⟨OE Y.size O.size,λb n T=>(O.same b (by have:=Y.size;omega) ?_).trans (Y.same b n T)⟩;rintro(h|h)
    ·rcases Z b (.inr ⟨M,a6,h⟩) with q|q
     ·exact T (.inl (.inr q))
     ·omega
    ·exact T (.inl (.inl h))
   ·intro b n;rcases oB b n with q|q
    ·exact Z b q
    ·have:=Y.size;omega
   ·refine O.same _ (aA D) ?_;rintro(h|h)
    ·exact X.wL a6 h
    ·exact an (.inl h.symm)
   ·obtain⟨o,ho⟩:=R;refine O.same _ (aA ho) ?_;rintro(h|h)
    ·rcases Z _ (.inr ⟨M,a6,h⟩) with q|q
     ·have:=bn _ q;omega
     ·omega
    ·omega
  ·rintro l2 ⟨⟩ A ⟨gs,X,dA,Y,Z,zA⟩ a8 _;have bA:∀f∈s.files,fM l2 f.name=true:=by
    intro f hf;obtain⟨i,hi⟩:=Oz.1 hf;obtain⟨g0,_,⟨e,he,h1,_⟩,_⟩:=g.files.BT hi;exact mM.2 ⟨e,a8.mem_iff.2 he,h1⟩
   have hmap:s.files.map (up l2)=s.files.map s.after:=by
    apply Q5;intro f hf;rw[N];simp only[bA f hf,if_true];exact U f
   rw[hmap] at X;have D:s.cU={s with files:=s.files.map s.after,down:=false,crash:=none}:=by unfold Dk.cU;rw[B];rfl
   have dm:(s.files.map λf=>if fM l2 f.name then (C f).aq.length else 0)=(s.files.map s.after).map λf=>f.aq.length:=by
    rw[PN];apply Q5;intro f hf;rw[if_pos (bA f hf),U,Function.comp_apply]
   have W:us l2=s.cU.used:=by
    rw[D];unfold Dk.used;rw[<-dm,a1]
   refine dA.st (i:=9) (by simp[fm]) (by rfl) λA1 d1 m1 s1=>?_;have ek:aj A1 d xB (fm x.m (us l2:Nat) s.most s.quota s.ops s.next s.crash.isSome cin kp false):=d1;refine je (b:=d) (o:=6) (t:=xB) ek (by kernel_rfl) (by simp[fm]) (by intro v hv;simp at hv;rcases hv with rfl|rfl|rfl<;>rfl) λA2 d2 m2 s2=>?_;have en:=dj.lV dA X;have b2:Mod (λb=>b=d) A A2:=m1.trans m2;have gg:dj ⟨x.m,x.es,x.clk,gs⟩ 0 0 A2 d s.cU:=by
    refine⟨?_,?_,?_,?_⟩
    ·rw[<-W];rw[D];exact d2
    ·rw[D];intro i k q;cases q
    ·rw[D];exact X.keep λb n hl=>b2.same b hl λe=>en (e▸n)
    ·have hu2:=V l2;refine⟨?_,by rw[<-W,D];show us l2<=s.most;omega,by rw[D];exact w2,by rw[D];exact w3,by rw[D];simp;exact g.wf.files,(by rw[D];intro h;cases h),(by rw[D];intro i k q;cases q)⟩;rw[D];simp only[PN];exact g.wf.nodup
   have dn:Mod F H A2:=by
    have t1:Mod F H H6:=(bM.mono λb _ e=>(hF b).2 (.inl e)).trans (Ext.mod e6);have z6:=e6.size;refine⟨by have:=Y.size;have:=b2.size;omega,λb n T=>?_⟩;have P:b≠d:=λe=>T ((hF b).2 (.inl e));have eo:¬x.fp b:=λe=>T ((hF b).2 (.inr e));refine(b2.same b (by have:=Y.size;omega) P).trans ((Y.same b (by omega) ?_).trans (t1.same b n T));rintro((h|h)|h)
    ·exact P h
    ·exact eo h
    ·omega
   obtain⟨F',r1,r2⟩:=gg.out (x:=x) (F:=F) (H:=H) hF dn (λb n=>(Z b n).imp id (λq=>by have:=e6.size;omega));exact hK F' A2 r1 r2
end Go.Proofs.YtmkbhnholcaghaaGreatDoor
