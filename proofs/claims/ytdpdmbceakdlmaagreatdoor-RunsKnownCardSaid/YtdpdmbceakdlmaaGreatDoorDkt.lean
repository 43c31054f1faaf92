/-
 The disk: Restart.
-/
import Derived.Test.YtdpdmbceakdlmaaGreatDoorDkr
open Bool renaming or_false->Sj
open Go.IntKind renaming i64->KG
open Go.Value renaming string->Pa
open List renaming mem_of_getElem?->KH,mem_iff_getElem?->KQ,mem_append->KW,mem_map->KZ,getElem?_map->Le,map_cons->Lp,map_append->LF,map_map->Md,sum_cons->Mp,map_congr_left->MV,length_flatMap->Oe,flatMap_def->OY,sum_append->Qn,flatMap_map->RM
open List.Perm renaming flatMap_right->Q2
open Nat renaming le_trans->Lc
open Option renaming map_some->NL
namespace Go.Proofs.YtdpdmbceakdlmaaGreatDoor
open Go.MapKept
def fL (v:Value):Option ByteArray:=match v with|.string n=>some n|_=>none
def fu (l:List MapEntry)(n:ByteArray):Bool:=l.any λe=>match fL e.key with|some m=>m.toList==n.toList|none=>false
theorem lJ {l:List MapEntry}{n:ByteArray}:fu l n=true↔∃e∈l,e.key=.string n:=by
 unfold fu
 rw[List.any_eq_true]
 constructor
 ·rintro⟨e,he,h⟩
  refine⟨e,he,?_⟩
  cases hk:e.key<;>rw[hk] at h<;>simp[fL] at h
  rw[iP h]
 ·rintro⟨e,he,h⟩
  exact⟨e,he,by rw[h];simp[fL]⟩
theorem yk {l:List MapEntry}{e:MapEntry}{m n:ByteArray}(hk:e.key=.string m):fu (l++[e]) n=(fu l n||(n.toList==m.toList)):=by
 rw[Bool.eq_iff_iff,Bool.or_eq_true,lJ,lJ,beq_iff_eq]
 constructor
 ·rintro⟨y,hy,h⟩
  rcases KW.1 hy with q|q
  ·exact .inl ⟨y,q,h⟩
  ·simp at q;subst q
   rw[hk] at h
   rw[str_inj h];exact .inr rfl
 ·rintro(⟨y,hy,h⟩|h)
  ·exact⟨y,List.mem_append_left _ hy,h⟩
  ·exact⟨e,by simp,by rw[hk,iP h]⟩
def nK (s:Dk)(e:MapEntry):List Int:=match fL e.key with|some n=>(match s.idx n with|some i=>(s.file i).log.map (·.no)|none=>[])|none=>[]
theorem CJ {α:Type}(l:List α):(l.map λ_=>0).sum=0:=by
 induction l with
 |nil=>rfl
 |cons a l ih=>simpa using ih
theorem zu {α:Type}(f:α->Nat):∀(l es:List α),l.Nodup->(∀y∈l,y∈es)->(l.map f).sum<=(es.map f).sum
 |[],es,_,_=>by simp
 |a::l,es,hn,hs=>by
   obtain⟨s,t,rfl⟩:=List.append_of_mem (hs a List.mem_cons_self)
   rw[List.nodup_cons] at hn
   have:=zu f l (s++t) hn.2 (λy hy=>by
    have:=hs y (List.mem_cons_of_mem _ hy)
    rw[KW,List.mem_cons] at this
    rw[KW]
    rcases this with h|h|h
    ·exact .inl h
    ·subst h;exact absurd hy hn.1
    ·exact .inr h)
   simp only[Lp,Mp,LF,Qn] at this ⊢
   omega
theorem yZ {α:Type}(f g:α->Nat):∀(l:List α) (i:Nat) (a:α),l[i]?=some a->(∀j b,l[j]?=some b->j≠i->g b=f b)->(l.map g).sum+f a=(l.map f).sum+g a
 |[],i,a,h,_=>by simp at h
 |x::l,0,a,h,hs=>by
   simp at h;subst h
   have:l.map g=l.map f:=by
    apply MV
    intro b hb
    obtain⟨j,hj⟩:=KQ.1 hb
    exact hs (j+1) b (by simpa using hj) (by omega)
   simp only[Lp,Mp,this];omega
 |x::l,i+1,a,h,hs=>by
   have h1:=yZ f g l i a (by simpa using h) (λj b hj hne=>hs (j+1) b (by simpa using hj) (by omega))
   have h2:=hs 0 x rfl (by omega)
   simp only[Lp,Mp];omega
theorem bm.perm {H:Heap}{x:DG}{s:Dk}(h:bm H x s.files)(hw:s.WF):(x.es.toList.map (·.key)).Perm (s.files.map λf=>Pa f.name):=by
 have hn2:(s.files.map λf=>Pa f.name).Nodup:=by
  have:=hw.nodup
  unfold List.Nodup at this ⊢
  rw[List.pairwise_map] at this ⊢
  exact this.imp λhne e=>hne (by rw[str_inj e])
 rw[List.perm_ext_iff_of_nodup h.map.stamped.2.2 hn2]
 intro k
 constructor
 ·intro hk
  obtain⟨e,he,rfl⟩:=KZ.1 hk
  obtain⟨i,f,g,h1,h2,h3,h4⟩:=h.ent' e.key e.val ⟨e,he,rfl,rfl⟩
  rw[h3]
  exact KZ.2 ⟨f,KH h1,rfl⟩
 ·intro hk
  obtain⟨f,hf,rfl⟩:=KZ.1 hk
  obtain⟨i,hi⟩:=KQ.1 hf
  obtain⟨g,_,⟨e,he,h1,h2⟩,_⟩:=h.zN hi
  exact KZ.2 ⟨e,he,h1⟩
theorem vm {H:Heap}{x:DG}{s:Dk}(h:bm H x s.files)(hw:s.WF){l:List MapEntry}(hl:l.Perm x.es.toList):(l.flatMap (nK s)).Perm s.D8:=by
 have h1:((x.es.toList.map (·.key)).flatMap λk=>match fL k with|some n=>(match s.idx n with|some i=>(s.file i).log.map (·.no)|none=>[])|none=>[]).Perm ((s.files.map λf=>Pa f.name).flatMap λk=>match fL k with|some n=>(match s.idx n with|some i=>(s.file i).log.map (·.no)|none=>[])|none=>[]):=Q2 _ (h.perm hw)
 rw[RM,RM] at h1
 have h2:(s.files.flatMap λf=>match fL (Pa f.name) with|some n=>(match s.idx n with|some i=>(s.file i).log.map (·.no)|none=>[])|none=>[])=s.D8:=by
  unfold Dk.D8
  rw[OY,OY]
  congr 1
  apply MV
  intro f hf
  obtain⟨i,hi⟩:=KQ.1 hf
  simp only[fL,Dk.idx_eq hw hi,Dk.dd hi]
 rw[h2] at h1
 exact(Q2 _ hl).trans h1
theorem Dk.jK (s:Dk):s.D8.length=s.logs:=by
 unfold Dk.D8 Dk.logs
 rw[Oe]
 simp
theorem Dk.CX {s:Dk}{L:List Int}(hL:L.Perm s.D8)(f:Fl):ri (λw=>iO s.ak (L.filter λx=>decide (x<w.no)).length) f=s.after f:=by
 have:∀no:Int,(L.filter λx=>decide (x<no)).length=s.ve no:=λno=>by
  unfold Dk.ve;exact(hL.filter _).length_eq
 unfold ri Dk.after
 congr 2
 apply List.filter_congr
 intro w _
 rw[this]
theorem Dk.vA (s:Dk)(f:Fl):(s.after f).au.length<=f.au.length:=by
 show (((f.log.filter _).foldl dq f.synced)).length<=_
 exact sK f.log _ f.synced f.synced (Nat.le_refl _)
set_option maxHeartbeats 1000000 in
theorem w7 {F:Nat->Prop}{d:Nat}{s:Dk}{H:Heap}{K:Unit->Heap->Prop}(h:bj F H d s)(hlogs:s.logs<68719476736)
  (hK:∀F' H',bj F' H' d s.cG->Step F F' H H'->K () H'):Gr.sp (aD d) H K:=by
 have h0:=h
 obtain⟨x,cin,kp,g,hF⟩:=h
 refine Gr.of ?_
 unfold Gr.vc
 simp only[aq,add_add,Nat.reduceAdd]
 refine aw rfl ?_
 refine g.head.ld (c:=aA) (i:=9) (x:=s.down) rfl ?_
 refine ae (λhd=>?_) (λhd=>?_)
 ·have hd':s.down=false:=by simpa using hd
  have e:s.cG=s:=by unfold Dk.cG;rw[hd'];rfl
  rw[e] at hK
  exact hK F H h0 (.refl _ _)
 have hd':s.down=true:=by simpa using hd
 obtain⟨ci,kk,hcr⟩:∃ci kk,s.crash=some (ci,kk):=by
  have:=g.wf.down hd'
  cases hc:s.crash with
  |none=>rw[hc] at this;cases this
  |some p=>exact⟨p.1,p.2,rfl⟩
 obtain⟨rfl,rfl⟩:=g.crash ci kk hcr
 have hkeep:s.ak=kp:=by unfold Dk.ak;rw[hcr]
 have hdx:=dJ.mC g.head g.files
 have hdl:d<H.size:=aG g.head
 refine g.head.ld (c:=cq) (i:=0) (x:=some x.m) rfl ?_
 obtain⟨et,inf,hu,_,_,_⟩:=na
 have hst:=g.files.map.stamped
 refine oM hu g.files.map λH1 hit e1=>?_
 have hit1:H.size<H1.size:=aG hit
 have files1:=g.files.ak (H':=H1) λb hb hl=>e1.same b hl id
 refine ov (it:=H.size) (λl z A=>aK EI j7 A z (l.flatMap (nK s))/\Mod (λb=>b=H.size) H1 A/\(∀b,al z b->H1.size<=b)) files1.map hit ⟨aK.nil _ _ _,.refl _ _,by rintro b ⟨ad,q,_⟩;cases q⟩ ?_ ?_ ?_
 ·rintro l z A A' ⟨o,m,f⟩ hm hs
  refine⟨o.ak λb hb hl=>hm.same b hl (by have:=f b hb;omega),m.trans hm,f⟩
 ·rintro l e z A next ⟨o,m,f⟩ he hel hsub hnd hr hito hnext
  obtain⟨i,fl,gf,q1,q2,q3,q4⟩:=g.files.ent' e.key e.val ⟨e,he,rfl,rfl⟩
  have hnos:nK s e=fl.log.map (·.no):=by
   unfold nK;rw[q3];simp[fL,Dk.idx_eq g.wf q1,Dk.dd q1]
  refine⟨aD gf.p,by rw[q4];rfl,?_⟩
  have hgfl:∀b,gf.fp b->b<H.size:=λb hb=>g.files.lt b (.inr ⟨gf,KH q2,hb⟩)
  have hFA:cA A gf fl:=(files1.ent i fl gf q1 q2).2.ak λb hb hl=>m.same b hl (by have:=hgfl b hb;omega)
  refine hFA.row.ld (c:=av) (i:=2) (x:=gf.log) rfl ?_
  have htot:(l.flatMap (nK s)).length+fl.log.length<=s.logs:=by
   have h1:=zu (λe=>(nK s e).length) (l++[e]) x.es.toList (by
    rw[List.nodup_append]
    exact⟨hnd,by simp,by intro a ha b hb;simp at hb;subst hb;intro e2;subst e2;exact hel ha⟩) (by
    intro y hy
    rcases KW.1 hy with q|q
    ·exact hsub y q
    ·simp at q;subst q;exact he)
   have h2:=(vm g.files g.wf (List.Perm.refl x.es.toList)).length_eq
   rw[Oe,Dk.jK] at h2
   rw[LF,Qn] at h1
   simp only[Lp,List.map_nil,Mp,List.sum_nil,hnos,List.length_map] at h1
   rw[Oe];omega
  refine xA hFA.log o (by omega) λz' A' o' g'=>?_
  have hlt:=aG hr
  refine hnext z' A' ⟨?_,?_,?_⟩ ?_ ?_
  ·rw[List.flatMap_append]
   simpa[hnos] using o'
  ·refine⟨Lc m.size g'.1.size,λb hb hn=>(g'.1.same b (by have:=m.size;omega) λhh=>?_).trans (m.same b hb hn)⟩
   have:=f b hh;omega
  ·intro b hb
   rcases g'.2 b hb with q|q
   ·exact f b q
   ·have:=m.size;omega
  ·exact g'.1.same _ hlt λhh=>by have:=f _ hh;have:=g.files.map.lt;omega
  ·obtain⟨o,ho⟩:=hito
   exact g'.1.same _ (aG ho) λhh=>by have:=f _ hh;omega
 ·rintro l z H3 ⟨oz,m3,fz⟩ hperm _
  have hnp:=vm g.files g.wf hperm
  have hnl:(l.flatMap (nK s)).length=s.logs:=by rw[hnp.length_eq,Dk.jK]
  refine uV oz (by omega) λH4 oz4 m4=>?_
  obtain⟨L,hL⟩:∃L,L=(l.flatMap (nK s)).mergeSort λx y=>decide (x<=y):=⟨_,rfl⟩
  rw[<-hL] at oz4
  have hLp:L.Perm s.D8:=by rw[hL];exact(List.mergeSort_perm _ _).trans hnp
  have hLs:L.Pairwise (·<=·):=by
   have:=List.pairwise_mergeSort (le:=λx y:Int=>decide (x<=y)) (λa b c h1 h2=>by simp at h1 h2 ⊢;omega) (λa b=>by simp;omega) (l.flatMap (nK s))
   rw[hL]
   exact this.imp λh=>by simpa using h
  have hLl:L.length=s.logs:=by rw[hLp.length_eq,Dk.jK]
  -- up to here all that was there lies as it lay
  have e4:Mod (λ_=>False) H H4:=by
   have z1:=e1.size;have z2:=m3.size;have z3:=m4.size
   refine⟨by omega,λb hb _=>(m4.same b (by omega) λhh=>?_).trans ((m3.same b (by omega) (by omega)).trans (e1.same b hb id))⟩
   have:=fz b hh;omega
  have zlt:∀b,al z b->H.size<=b:=λb hb=>by have:=fz b hb;omega
  have d4:=g.head.ext e4
  refine d4.st (i:=1) (by simp[eW]) (by rfl) λH5 d5 m5 s5=>?_
  have d5':aj H5 d wE (eW x.m 0 s.most s.quota s.ops s.next s.crash.isSome cin kp s.down):=d5
  refine d5'.ld (c:=cq) (i:=0) (x:=some x.m) rfl ?_
  have m05:Mod (λb=>b=d) H H5:=(Ext.mod e4).trans m5
  have files5:bm H5 x s.files:=g.files.ak λb hb hl=>m05.same b hl λe=>hdx (e▸hb)
  have z5:aK EI j7 H5 z L:=oz4.ak λb hb hl=>m5.same b hl (by have:=zlt b hb;omega)
  have z5lt:=z5.lt
  have hs05:=m05.size
  refine oM hu files5.map λH6 hit6 e6=>?_
  have hit6l:H5.size<H6.size:=aG hit6
  obtain⟨af,haf⟩:∃af:Fl->Fl,af=λf=>ri (λw=>iO kp (L.filter λx=>decide (x<w.no)).length) f:=⟨_,rfl⟩
  have hafs:∀f,af f=s.after f:=λf=>by rw[haf,<-hkeep];exact Dk.CX hLp f
  have hafn:∀f,(af f).name=f.name:=λf=>by rw[haf];rfl
  have hafl:∀f,(af f).au.length<=f.au.length:=λf=>by rw[hafs];exact s.vA f
  obtain⟨up,hup⟩:∃up:List MapEntry->Fl->Fl,up=λl f=>if fu l f.name then af f else f:=⟨_,rfl⟩
  obtain⟨us,hus⟩:∃us:List MapEntry->Nat,us=λl=>(s.files.map λf=>if fu l f.name then (af f).au.length else 0).sum:=⟨_,rfl⟩
  have husle:∀l,us l<=s.used:=λl=>by
   rw[hus]
   refine mK _ _ _ λf _=>?_
   split
   ·exact hafl f
   ·exact Nat.zero_le _
  have w1:=g.wf.used;have w2:=g.wf.most;have w3:=g.wf.quota
  have hxfp:∀b,x.fp b->b<H.size:=g.files.lt
  refine ov (it:=H5.size) (λl _ A=>∃gs,bm A ⟨x.m,x.es,x.clk,gs⟩ (s.files.map (up l))/\aj A d wE (eW x.m (us l:Nat) s.most s.quota s.ops s.next s.crash.isSome cin kp s.down)/\Mod (λb=>(b=d\/x.fp b)\/b=H5.size) H6 A/\(∀b,DG.fp ⟨x.m,x.es,x.clk,gs⟩ b->x.fp b\/H6.size<=b)/\aK EI j7 A z L) (files5.ak λb hb hl=>e6.same b hl id).map hit6 ?_ ?_ ?_ ?_
  ·refine⟨x.gs,?_,?_,.refl _ _,λb hb=>.inl hb,z5.ext e6⟩
   ·have e:s.files.map (up [])=s.files:=by rw[hup];simp[fu]
    rw[e]
    exact files5.ak λb hb hl=>e6.same b hl id
   ·have e:us []=0:=by
     rw[hus]
     show (s.files.map λf=>if fu [] f.name then (af f).au.length else 0).sum=0
     have:(s.files.map λf=>if fu [] f.name then (af f).au.length else 0)=s.files.map λ_=>0:=by simp[fu]
     rw[this]
     exact CJ _
    rw[e]
    exact d5'.ext e6
  ·rintro l _ A A' ⟨gs,fA,dA,mA,oA,zA⟩ hm hs
   refine⟨gs,fA.ak λb hb hl=>hm.same b hl ?_,dA.mod hm (by omega),mA.trans (hm.mono λb _ e=>.inr e),oA,zA.ak λb hb hl=>hm.same b hl (by have:=z5lt b hb;omega)⟩
   intro e
   rcases oA b hb with q|q
   ·have:=hxfp b q;omega
   ·omega
  ·rintro l e ⟨⟩ A next ⟨gs,fA,dA,mA,oA,zA⟩ he hel hsub hnd hr hito hnext
   obtain⟨i,f1,gf,q1,q2,q3,q4⟩:=fA.ent' e.key e.val ⟨e,he,rfl,rfl⟩
   rw[Le] at q1
   obtain⟨fl,hfl,hf1⟩:∃fl,s.files[i]?=some fl/\up l fl=f1:=by
    cases hq:s.files[i]? with
    |none=>rw[hq] at q1;cases q1
    |some fl=>rw[hq] at q1;exact⟨fl,rfl,by simpa using q1⟩
   have hupn:∀l f,(up l f).name=f.name:=λl f=>by rw[hup];simp only;split;exact hafn f;rfl
   have hkey:e.key=.string fl.name:=by rw[q3,<-hf1,hupn]
   have hnd2:fu l fl.name=false:=by
    cases hq:fu l fl.name with
    |false=>rfl
    |true=>
      obtain⟨e',he',hk'⟩:=lJ.1 hq
      have:=wA hst (hsub e' he') he (by rw[hk',hkey])
      subst this;exact absurd he' hel
   have hf1':f1=fl:=by rw[<-hf1,hup];simp only;rw[hnd2];rfl
   subst hf1'
   have hfA:(s.files.map (up l))[i]?=some f1:=by rw[Le,hfl];simp[hf1]
   have hFA:=(fA.ent i f1 gf hfA q2).2
   have hgm:=KH q2
   have hgd:¬gf.fp d:=by
    intro hb
    rcases oA d (.inr ⟨gf,hgm,hb⟩) with q|q
    ·exact hdx q
    ·omega
   refine⟨aD gf.p,by rw[q4];rfl,?_⟩
   simp only[aq]
   have hpl:=Dk.eH hfl
   have hll:=Dk.jy hfl
   refine Ew hFA dA zA hLs (by omega) (by omega) (by omega) hgd λgf' A' hp' hF' hd' hm' hb'=>?_
   have haf1:ri (λw=>iO kp (L.filter λx=>decide (x<w.no)).length) f1=af f1:=by rw[haf]
   rw[haf1] at hF' hd'
   have hdone:∀f:Fl,fu (l++[e]) f.name=(fu l f.name||(f.name.toList==f1.name.toList)):=by
    intro f
    exact yk hkey
   have hother:∀(j:Nat) (f:Fl),s.files[j]?=some f->j≠i->(f.name.toList==f1.name.toList)=false:=by
    intro j f hj hne
    cases hq:(f.name.toList==f1.name.toList) with
    |false=>rfl
    |true=>exact absurd (g.wf.inj hj hfl (iP (by simpa using hq))) hne
   obtain⟨fB,oB⟩:=fA.I4 (H':=A') hfA q2 (f':=af f1) (g':=gf') hp' (hafn f1) hF' (λb hb hn hl=>hm'.same b hl (by
    rintro(h|h)
    ·exact hn h
    ·subst h
     rcases oA b hb with q|q
     ·exact hdx q
     ·omega)) hb'
   have hmapeq:(s.files.map (up l)).set i (af f1)=s.files.map (up (l++[e])):=by
    apply List.ext_getElem?
    intro j
    rw[List.getElem?_set]
    by_cases hij:i=j
    ·subst hij
     have hil:=(List.getElem?_eq_some_iff.1 hfl).1
     rw[if_pos rfl,if_pos (by simpa using hil),Le,hfl]
     simp only[NL]
     rw[hup]
     simp only[hdone]
     simp
    ·rw[if_neg hij,Le,Le]
     cases hj:s.files[j]? with
     |none=>rfl
     |some f=>
       simp only[NL]
       rw[hup]
       simp only[hdone,hother j f hj (Ne.symm hij),Sj]
   rw[hmapeq] at fB
   have husn:us (l++[e])=us l+(af f1).au.length:=by
    have:=yZ (λf:Fl=>if fu l f.name then (af f).au.length else 0) (λf:Fl=>if fu (l++[e]) f.name then (af f).au.length else 0) s.files i f1 hfl (λj f hj hne=>by
     simp only[hdone,hother j f hj hne,Sj])
    have hg:fu (l++[e]) f1.name=true:=by rw[hdone];simp
    simp only[hnd2,hg,if_true,Bool.false_eq_true,if_false,Nat.add_zero] at this
    rw[hus]
    exact this
   have hwrap:KG.wrap ((us l:Int)+((af f1).au.length:Int))=((us (l++[e]):Nat):Int):=by
    have:=husle (l++[e])
    rw[wrap64 (by omega) (by omega),husn];omega
   rw[hwrap] at hd'
   have zA':aK EI j7 A' z L:=zA.ak λb hb hl=>hm'.same b hl (by
    rintro(h|h)
    ·obtain⟨c,t,q,ht⟩:=hFA.obj b h
     obtain⟨c2,q2⟩:=zA.obj b hb
     rw[aQ q q2] at ht
     exact absurd ht (by decide)
    ·have:=zlt b hb;omega)
   refine hnext () A' ⟨gs.set i gf',fB,hd',?_,?_,zA'⟩ ?_ ?_
   ·refine⟨Lc mA.size hm'.size,λb hb hn=>(hm'.same b (by have:=mA.size;omega) ?_).trans (mA.same b hb hn)⟩
    rintro(h|h)
    ·rcases oA b (.inr ⟨gf,hgm,h⟩) with q|q
     ·exact hn (.inl (.inr q))
     ·omega
    ·exact hn (.inl (.inl h))
   ·intro b hb
    rcases oB b hb with q|q
    ·exact oA b q
    ·have:=mA.size;omega
   ·refine hm'.same _ (aG hr) ?_
    rintro(h|h)
    ·exact fA.wZ hgm h
    ·exact hdx (.inl h.symm)
   ·obtain⟨o,ho⟩:=hito
    refine hm'.same _ (aG ho) ?_
    rintro(h|h)
    ·rcases oA _ (.inr ⟨gf,hgm,h⟩) with q|q
     ·have:=hxfp _ q;omega
     ·omega
    ·omega
  ·rintro l2 ⟨⟩ A ⟨gs,fA,dA,mA,oA,zA⟩ hperm2 _
   have hall:∀f∈s.files,fu l2 f.name=true:=by
    intro f hf
    obtain⟨i,hi⟩:=KQ.1 hf
    obtain⟨g0,_,⟨e,he,h1,_⟩,_⟩:=g.files.zN hi
    exact lJ.2 ⟨e,hperm2.mem_iff.2 he,h1⟩
   have hmap:s.files.map (up l2)=s.files.map s.after:=by
    apply MV
    intro f hf
    rw[hup];simp only[hall f hf,if_true]
    exact hafs f
   rw[hmap] at fA
   have hr:s.cG={s with files:=s.files.map s.after,down:=false,crash:=none}:=by unfold Dk.cG;rw[hd'];rfl
   have hus2:(s.files.map λf=>if fu l2 f.name then (af f).au.length else 0)=(s.files.map s.after).map λf=>f.au.length:=by
    rw[Md]
    apply MV
    intro f hf
    rw[if_pos (hall f hf),hafs,Function.comp_apply]
   have hused:us l2=s.cG.used:=by
    rw[hr]
    unfold Dk.used
    rw[<-hus2,hus]
   refine dA.st (i:=9) (by simp[eW]) (by rfl) λA1 d1 m1 s1=>?_
   have d1':aj A1 d wE (eW x.m (us l2:Nat) s.most s.quota s.ops s.next s.crash.isSome cin kp false):=d1
   refine iR (b:=d) (o:=6) (t:=wE) d1' (by kernel_rfl) (by simp[eW]) (by intro v hv;simp at hv;rcases hv with rfl|rfl|rfl<;>rfl) λA2 d2 m2 s2=>?_
   have hdA:=dJ.mC dA fA
   have m02:Mod (λb=>b=d) A A2:=m1.trans m2
   have gg:dJ ⟨x.m,x.es,x.clk,gs⟩ 0 0 A2 d s.cG:=by
    refine⟨?_,?_,?_,?_⟩
    ·rw[<-hused]
     rw[hr]
     exact d2
    ·rw[hr];intro i k q;cases q
    ·rw[hr];exact fA.ak λb hb hl=>m02.same b hl λe=>hdA (e▸hb)
    ·have hu2:=husle l2
     refine⟨?_,by rw[<-hused,hr];show us l2<=s.most;omega,by rw[hr];exact w2,by rw[hr];exact w3,by rw[hr];simp;exact g.wf.files,(by rw[hr];intro h;cases h),(by rw[hr];intro i k q;cases q)⟩
     rw[hr]
     simp only[Md]
     exact g.wf.nodup
   have mfin:Mod F H A2:=by
    have t1:Mod F H H6:=(m05.mono λb _ e=>(hF b).2 (.inl e)).trans (Ext.mod e6)
    have z6:=e6.size
    refine⟨by have:=mA.size;have:=m02.size;omega,λb hb hn=>?_⟩
    have hne:b≠d:=λe=>hn ((hF b).2 (.inl e))
    have hnx:¬x.fp b:=λe=>hn ((hF b).2 (.inr e))
    refine(m02.same b (by have:=mA.size;omega) hne).trans ((mA.same b (by omega) ?_).trans (t1.same b hb hn))
    rintro((h|h)|h)
    ·exact hne h
    ·exact hnx h
    ·omega
   obtain⟨F',r1,r2⟩:=gg.out (x:=x) (F:=F) (H:=H) hF mfin (λb hb=>(oA b hb).imp id (λq=>by have:=e6.size;omega))
   exact hK F' A2 r1 r2
end Go.Proofs.YtdpdmbceakdlmaaGreatDoor
