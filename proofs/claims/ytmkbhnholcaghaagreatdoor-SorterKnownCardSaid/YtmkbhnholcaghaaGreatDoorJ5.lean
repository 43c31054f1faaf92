/-
 The disk: Restart.
-/
import Derived.Lib.AppendZerosOnto
import Derived.Lib.Overlaps
import Derived.Test.YtmkbhnholcaghaaGreatDoorJ4
open Array renaming length_toList->Td,getElem?_push->TM
open BitVec renaming ofNat->Uw
open Bool renaming or_eq_true->Sc,or_eq_false_iff->Sp,false_eq_true->SL,eq_iff_iff->Wu,or_false->Yw
open ByteArray renaming size_append->Tk
open Go.Addr renaming add->Ru
open Go.Builtin renaming append_->QM,clear_->VY,copy_->Wf,firstCells->WQ,zeroCells->Xd
open Go.ByteArray renaming toList_eq->VN
open Go.IntKind renaming i64->QI,u8->RE,u32->Ss,wrap_i64->Yy
open Go.Proofs.AnyM renaming slices_Sort_string_none->YB,slices_Sort_string->Y5
open Go.Proofs.Tryz renaming prog->QH,func17->abm
open Go.Value renaming int->QT,string->Sf
open Go.Value.slice renaming injEq->Q2
open Go.World renaming setRow->TK
open Iff renaming rfl->V4
open Int renaming toNat_natCast->QP,tdiv->Rt,le_refl->TG,le_of_eq->aab
open List renaming getElem?_eq_some_iff->QJ,getElem?_eq_getElem->QK,mem_of_getElem?->QL,take_succ_eq_append_getElem->QO,mem_append->QQ,take_of_length_le->QS,mem_iff_getElem?->QU,getElem?_map->QV,mem_map->QW,mem_cons->QX,mem_singleton->Q1,replicate->Q6,map_cons->Q7,mem_cons_of_mem->Q8,mem_cons_self->Q9,eq_nil_of_length_eq_zero->Ra,getElem_mem->Re,getElem?_append_left->Rf,length_map->Rg,length_append->Ri,map_append->Rm,length_take->Ro,length_cons->Rr,drop_eq_getElem_cons->Rw,getElem?_set->Rx,append_assoc->RD,getElem?_take->RF,mergeSort_perm->RG,getElem?_append_right->RK,length_drop->RM,getElem?_set_ne->RO,sum_cons->RS,getElem?_set_self->RT,mem_of_mem_take->RU,getElem?_cons_succ->RV,getD->RY,pairwise_cons->R0,map_map->R8,map_set->R9,getElem_of_mem->Sb,mem_of_mem_eraseIdx->Se,filter_append->Sh,getElem?_drop->Si,pairwise_mergeSort->Sw,ext_getElem?->Sy,nodup_append->Sz,mem_or_eq_of_mem_set->SH,pairwise_iff_getElem->SJ,findIdx?_eq_some_iff_getElem->SM,perm_ext_iff_of_nodup->SU,nil_append->SY,getElem?_eraseIdx->Ta,findIdx?_eq_none_iff->Tc,size_toArray->Tf,pairwise_map->Tg,getElem?_eq_none->Th,length_replicate->Ti,take_append_drop->Tj,append_nil->Tl,nodup_cons->To,set_cons_zero->Tq,map_nil->TD,getElem?_append->TJ,map_congr_left->TO,cons_append->TU,drop_length->TV,drop_drop->TZ,take_take->T0,length_filter_le->T2,take_succ_cons->Ue,take_length->Ut,contains_iff_mem->UL,take_set_of_le->Vo,getElem?_replicate->Vr,set_cons_succ->VG,length->VL,take_left->V2,set_append_right->V3,mem_append_left->Wh,mem_iff_getElem->Wj,drop_set_of_lt->Wq,length_flatMap->Ws,eraseIdx_eq_take_drop_succ->WS,pairwise_append->WZ,sum_append->W8,set_set->Xe,le_trans->XF,getElem_take->XN,take_add_one->XP,append_of_mem->YQ,take_sublist->YZ,drop_sublist->Y0,flatMap_map->Zf,flatMap_def->Zg,le_antisymm->Zh,length_set->Zt,drop->ZP,le_total->ZX,le_of_lt->ZY
open List.Nodup renaming length_le_of_subset->TA
open List.Pairwise renaming nil->UY,imp->acx
open List.Perm renaming eq_of_pairwise->TE,flatMap_right->X8
open Nat renaming le_refl->QN,le_trans->QZ,zero_le->Q5,mul_le_mul_right->Rq,mul_one->Rz,lt_or_ge->RA,le_succ->RB,zero_add->R3,le_add_right->SP,min_eq_left->TL,add_mul->T8,lt_trichotomy->Ua,lt_succ_self->Us,add_zero->Ux,sub_zero->Wb,reduceAdd->Wl,sub_self->Wx,not_lt_zero->Ye,mul_le_mul->Yr,succ_pos->YR
open Ne renaming symm->Sg
open Option renaming map_eq_some_iff->TP,map_some->UJ,bind_some->WL
open Option.some renaming inj->Rc,injEq->RH
open Prod.mk renaming injEq->RJ
open UInt8 renaming ofNat->Rv,toNat_ofNat'->TY
open Go renaming Value->gp,MapEntry->nW,Addr->hY,TypeId->ic
open Go.Proofs.YtmkbhnholcaghaaGreatDoor renaming ld->sz,st->sT
namespace Go.Proofs.YtmkbhnholcaghaaGreatDoor
section
open Go.MapKept
def gu (v:gp):Option ByteArray:=match v with|.string n=>some n|_=>none
def gi (l:List nW)(n:ByteArray):Bool:=l.any λe=>match gu e.key with|some m=>m.toList==n.toList|none=>false
theorem nz {l:List nW}{n:ByteArray}:gi l n=true↔∃e∈l,e.key=.string n:=by
 unfold gi;rw[List.any_eq_true];constructor
 ·rintro⟨e,he,h⟩;refine⟨e,he,?_⟩;cases hk:e.key<;>rw[hk] at h<;>simp[gu] at h;rw[ig h]
 ·rintro⟨e,he,h⟩;exact⟨e,he,by rw[h];simp[gu]⟩
theorem Ca {l:List nW}{e:nW}{m n:ByteArray}(hk:e.key=.string m):gi (l++[e]) n=(gi l n||(n.toList==m.toList)):=by
 rw[Wu,Sc,nz,nz,beq_iff_eq];constructor
 ·rintro⟨y,a,h⟩;rcases QQ.1 a with q|q
  ·exact .inl ⟨y,q,h⟩
  ·simp at q;subst q;rw[hk] at h;rw[str_inj h];exact .inr rfl
 ·rintro(⟨y,a,h⟩|h)
  ·exact⟨y,Wh _ a,h⟩
  ·exact⟨e,by simp,by rw[hk,ig h]⟩
def pM (s:Dk)(e:nW):List Int:=match gu e.key with|some n=>(match s.idx n with|some i=>(s.file i).log.map (·.no)|none=>[])|none=>[]
theorem Is {α:Type}(l:List α):(l.map λ_=>0).sum=0:=by
 induction l with
 |nil=>rfl
 |cons a l b=>simpa using b
theorem Di {α:Type}(f:α->Nat):∀(l es:List α),l.Nodup->(∀y∈l,y∈es)->(l.map f).sum<=(es.map f).sum
 |[],es,_,_=>by simp
 |a::l,es,b,hs=>by
   obtain⟨s,t,rfl⟩:=YQ (hs a Q9);rw[To] at b;have:=Di f l (s++t) b.2 (λy c=>by
    have:=hs y (Q8 _ c);rw[QQ,QX] at this;rw[QQ];rcases this with h|h|h
    ·exact .inl h
    ·subst h;exact absurd c b.1
    ·exact .inr h)
   simp only[Q7,RS,Rm,W8] at this ⊢;omega
theorem Dx {α:Type}(f g:α->Nat):∀(l:List α) (i:Nat) (a:α),l[i]?=some a->(∀j b,l[j]?=some b->j≠i->g b=f b)->(l.map g).sum+f a=(l.map f).sum+g a
 |[],i,a,h,_=>by simp at h
 |x::l,0,a,h,hs=>by
   simp at h;subst h;have:l.map g=l.map f:=by
    apply TO;intro b d;obtain⟨j,c⟩:=QU.1 d;exact hs (j+1) b (by simpa using c) (by omega)
   simp only[Q7,RS,this];omega
 |x::l,i+1,a,h,hs=>by
   have h1:=Dx f g l i a (by simpa using h) (λj b c e=>hs (j+1) b (by simpa using c) (by omega));have k:=hs 0 x rfl (by omega);simp only[Q7,RS];omega
theorem bj.perm {H:aa}{x:DG}{s:Dk}(h:bj H x s.files)(hw:s.WF):(x.es.toList.map (·.key)).Perm (s.files.map λf=>Sf f.name):=by
 have a:(s.files.map λf=>Sf f.name).Nodup:=by
  have:=hw.nodup;unfold List.Nodup at this ⊢;rw[Tg] at this ⊢;exact this.imp λb e=>b (by rw[str_inj e])
 rw[SU h.map.stamped.2.2 a];intro k;constructor
 ·intro hk;obtain⟨e,he,rfl⟩:=QW.1 hk;obtain⟨i,f,g,h1,c,d,l⟩:=h.ent' e.key e.val ⟨e,he,rfl,rfl⟩;rw[d];exact QW.2 ⟨f,QL h1,rfl⟩
 ·intro hk;obtain⟨f,j,rfl⟩:=QW.1 hk;obtain⟨i,hi⟩:=QU.1 j;obtain⟨g,_,⟨e,he,h1,c⟩,_⟩:=h.Dl hi;exact QW.2 ⟨e,he,h1⟩
theorem AI {H:aa}{x:DG}{s:Dk}(h:bj H x s.files)(hw:s.WF){l:List nW}(hl:l.Perm x.es.toList):(l.flatMap (pM s)).Perm s.IV:=by
 have h1:((x.es.toList.map (·.key)).flatMap λk=>match gu k with|some n=>(match s.idx n with|some i=>(s.file i).log.map (·.no)|none=>[])|none=>[]).Perm ((s.files.map λf=>Sf f.name).flatMap λk=>match gu k with|some n=>(match s.idx n with|some i=>(s.file i).log.map (·.no)|none=>[])|none=>[]):=X8 _ (h.perm hw);rw[Zf,Zf] at h1;have a:(s.files.flatMap λf=>match gu (Sf f.name) with|some n=>(match s.idx n with|some i=>(s.file i).log.map (·.no)|none=>[])|none=>[])=s.IV:=by
  unfold Dk.IV;rw[Zg,Zg];congr 1;apply TO;intro f b;obtain⟨i,hi⟩:=QU.1 b;simp only[gu,Dk.idx_eq hw hi,Dk.dI hi]
 rw[a] at h1;exact(X8 _ hl).trans h1
theorem Dk.kQ (s:Dk):s.IV.length=s.aH:=by
 unfold Dk.IV Dk.aH;rw[Ws];simp
theorem Dk.GB {s:Dk}{L:List Int}(a:L.Perm s.IV)(f:Fl):tG (λw=>jB s.ar (L.filter λx=>decide (x<w.no)).length) f=s.after f:=by
 have:∀no:Int,(L.filter λx=>decide (x<no)).length=s.zk no:=λno=>by
  unfold Dk.zk;exact(a.filter _).length_eq
 unfold tG Dk.after;congr 2;apply List.filter_congr;intro w _;rw[this]
theorem Dk.Aw (s:Dk)(f:Fl):(s.after f).az.length<=f.az.length:=by
 show (((f.log.filter _).foldl dZ f.synced)).length<=_;exact w5 f.log _ f.synced f.synced (QN _)
set_option maxHeartbeats 1000000 in
theorem BS {F:Nat->Prop}{d:Nat}{s:Dk}{H:aa}{K:Unit->aa->Prop}(h:bw F H d s)(dm:s.aH<68719476736)
  (hK:∀F' H',bw F' H' d s.c8->Step F F' H H'->K () H'):K3.sp (aK d) H K:=by
 have h0:=h;obtain⟨x,cin,kp,g,hF⟩:=h;refine K3.of ?_;unfold K3.vc;simp only[aw,add_add,Wl];refine aE rfl ?_;refine g.head.ld (c:=aC) (i:=9) (x:=s.down) rfl ?_;refine ah (λhd=>?_) (λhd=>?_)
 ·have B:s.down=false:=by simpa using hd
  have e:s.c8=s:=by unfold Dk.c8;rw[B];rfl
  rw[e] at hK;exact hK F H h0 (.refl _ _)
 have B:s.down=true:=by simpa using hd
 obtain⟨ci,kk,b1⟩:∃ci kk,s.crash=some (ci,kk):=by
  have:=g.wf.down B;cases hc:s.crash with
  |none=>rw[hc] at this;cases this
  |some p=>exact⟨p.1,p.2,rfl⟩
 obtain⟨rfl,rfl⟩:=g.crash ci kk b1;have bx:s.ar=kp:=by unfold Dk.ar;rw[b1]
 have al:=dy.mW g.head g.files;have er:d<H.size:=aI g.head;refine g.head.ld (c:=cd) (i:=0) (x:=some x.m) rfl ?_;obtain⟨et,inf,hu,_,_,_⟩:=mQ;have dn:=g.files.map.stamped;refine qF hu g.files.map λH1 b2 e1=>?_;have en:H.size<H1.size:=aI b2;have I:=g.files.ar (H':=H1) λb n hl=>e1.same b hl id;refine ry (it:=H.size) (λl z A=>aF EI jm A z (l.flatMap (pM s))/\Mod (λb=>b=H.size) H1 A/\(∀b,ai z b->H1.size<=b)) I.map b2 ⟨aF.nil _ _ _,.refl _ _,by rintro b ⟨ad,q,_⟩;cases q⟩ ?_ ?_ ?_
 ·rintro l z A A' ⟨o,m,f⟩ hm hs;refine⟨o.ar λb n hl=>hm.same b hl (by have:=f b n;omega),m.trans hm,f⟩
 ·rintro l e z A next ⟨o,m,f⟩ he bA Q b3 D R E
  obtain⟨i,fl,M,q1,q2,q3,q4⟩:=g.files.ent' e.key e.val ⟨e,he,rfl,rfl⟩;have a8:pM s e=fl.log.map (·.no):=by
   unfold pM;rw[q3];simp[gu,Dk.idx_eq g.wf q1,Dk.dI q1]
  refine⟨aK M.p,by rw[q4];rfl,?_⟩;have b4:∀b,M.fp b->b<H.size:=λb n=>g.files.lt b (.inr ⟨M,QL q2,n⟩);have S:cO A M fl:=(I.ent i fl M q1 q2).2.ar λb n hl=>m.same b hl (by have:=b4 b n;omega);refine S.row.ld (c:=aq) (i:=2) (x:=M.log) rfl ?_;have eo:(l.flatMap (pM s)).length+fl.log.length<=s.aH:=by
   have h1:=Di (λe=>(pM s e).length) (l++[e]) x.es.toList (by
    rw[Sz];exact⟨b3,by simp,by intro a ha b n;simp at n;subst n;intro e2;subst e2;exact bA ha⟩) (by
    intro y hy;rcases QQ.1 hy with q|q
    ·exact Q y q
    ·simp at q;subst q;exact he)
   have h2:=(AI g.files g.wf (List.Perm.refl x.es.toList)).length_eq;rw[Ws,Dk.kQ] at h2;rw[Rm,W8] at h1;simp only[Q7,TD,RS,List.sum_nil,a8,Rg] at h1;rw[Ws];omega
  refine Bh S.log o (by omega) λz' A' o' g'=>?_;have dB:=aI D;refine E z' A' ⟨?_,?_,?_⟩ ?_ ?_
  ·rw[List.flatMap_append];simpa[a8] using o'
  ·refine⟨QZ m.size g'.1.size,λb n T=>(g'.1.same b (by have:=m.size;omega) λhh=>?_).trans (m.same b n T)⟩;have:=f b hh;omega
  ·intro b n;rcases g'.2 b n with q|q
   ·exact f b q
   ·have:=m.size;omega
  ·exact g'.1.same _ dB λhh=>by have:=f _ hh;have:=g.files.map.lt;omega
  ·obtain⟨o,ho⟩:=R;exact g'.1.same _ (aI ho) λhh=>by have:=f _ hh;omega
 ·rintro l z H3 ⟨oz,m3,fz⟩ bB _;have b5:=AI g.files g.wf bB;have eu:(l.flatMap (pM s)).length=s.aH:=by rw[b5.length_eq,Dk.kQ]
  refine Al oz (by omega) λH4 b6 m4=>?_;obtain⟨L,hL⟩:∃L,L=(l.flatMap (pM s)).mergeSort λx y=>decide (x<=y):=⟨_,rfl⟩;rw[<-hL] at b6;have b7:L.Perm s.IV:=by rw[hL];exact(RG _ _).trans b5
  have dD:L.Pairwise (·<=·):=by
   have:=Sw (le:=λx y:Int=>decide (x<=y)) (λa b c h1 h2=>by simp at h1 h2 ⊢;omega) (λa b=>by simp;omega) (l.flatMap (pM s));rw[hL];exact this.imp λh=>by simpa using h
  have ev:L.length=s.aH:=by rw[b7.length_eq,Dk.kQ]
  -- up to here all that was there lies as it lay
  have e4:Mod (λ_=>False) H H4:=by
   have z1:=e1.size;have z2:=m3.size;have z3:=m4.size;refine⟨by omega,λb n _=>(m4.same b (by omega) λhh=>?_).trans ((m3.same b (by omega) (by omega)).trans (e1.same b n id))⟩;have:=fz b hh;omega
  have b9:∀b,ai z b->H.size<=b:=λb n=>by have:=fz b n;omega
  have d4:=g.head.ext e4;refine d4.st (i:=1) (by simp[fN]) (by rfl) λH5 d5 m5 s5=>?_;have cb:ao H5 d yS (fN x.m 0 s.most s.quota s.ops s.next s.crash.isSome cin kp s.down):=d5;refine cb.ld (c:=cd) (i:=0) (x:=some x.m) rfl ?_;have bC:Mod (λb=>b=d) H H5:=(Ext.mod e4).trans m5;have r:bj H5 x s.files:=g.files.ar λb n hl=>bC.same b hl λe=>al (e▸n);have z5:aF EI jm H5 z L:=b6.ar λb n hl=>m5.same b hl (by have:=b9 b n;omega);have ck:=z5.lt;have ep:=bC.size;refine qF hu r.map λH6 bb e6=>?_;have dT:H5.size<H6.size:=aI bb;obtain⟨C,bD⟩:∃C:Fl->Fl,C=λf=>tG (λw=>jB kp (L.filter λx=>decide (x<w.no)).length) f:=⟨_,rfl⟩;have U:∀f,C f=s.after f:=λf=>by rw[bD,<-bx];exact Dk.GB b7 f
  have bd:∀f,(C f).name=f.name:=λf=>by rw[bD];rfl
  have cm:∀f,(C f).az.length<=f.az.length:=λf=>by rw[U];exact s.Aw f
  obtain⟨up,N⟩:∃up:List nW->Fl->Fl,up=λl f=>if gi l f.name then C f else f:=⟨_,rfl⟩
  obtain⟨us,an⟩:∃us:List nW->Nat,us=λl=>(s.files.map λf=>if gi l f.name then (C f).az.length else 0).sum:=⟨_,rfl⟩;have V:∀l,us l<=s.used:=λl=>by
   rw[an];refine oK _ _ _ λf _=>?_;split
   ·exact cm f
   ·exact Q5 _
  have w1:=g.wf.used;have w2:=g.wf.most;have w3:=g.wf.quota;have bh:∀b,x.fp b->b<H.size:=g.files.lt;refine ry (it:=H5.size) (λl _ A=>∃gs,bj A ⟨x.m,x.es,x.clk,gs⟩ (s.files.map (up l))/\ao A d yS (fN x.m (us l:Nat) s.most s.quota s.ops s.next s.crash.isSome cin kp s.down)/\Mod (λb=>(b=d\/x.fp b)\/b=H5.size) H6 A/\(∀b,DG.fp ⟨x.m,x.es,x.clk,gs⟩ b->x.fp b\/H6.size<=b)/\aF EI jm A z L) (r.ar λb n hl=>e6.same b hl id).map bb ?_ ?_ ?_ ?_
  ·refine⟨x.gs,?_,?_,.refl _ _,λb n=>.inl n,z5.ext e6⟩
   ·have e:s.files.map (up [])=s.files:=by rw[N];simp[gi]
    rw[e];exact r.ar λb n hl=>e6.same b hl id
   ·have e:us []=0:=by
     rw[an];show (s.files.map λf=>if gi [] f.name then (C f).az.length else 0).sum=0;have:(s.files.map λf=>if gi [] f.name then (C f).az.length else 0)=s.files.map λ_=>0:=by simp[gi]
     rw[this];exact Is _
    rw[e];exact cb.ext e6
  ·rintro l _ A A' ⟨gs,X,dA,Y,Z,zA⟩ hm hs;refine⟨gs,X.ar λb n hl=>hm.same b hl ?_,dA.mod hm (by omega),Y.trans (hm.mono λb _ e=>.inr e),Z,zA.ar λb n hl=>hm.same b hl (by have:=ck b n;omega)⟩;intro e;rcases Z b n with q|q
   ·have:=bh b q;omega
   ·omega
  ·rintro l e ⟨⟩ A next ⟨gs,X,dA,Y,Z,zA⟩ he bA Q b3 D R E
   obtain⟨i,f1,M,q1,q2,q3,q4⟩:=X.ent' e.key e.val ⟨e,he,rfl,rfl⟩;rw[QV] at q1;obtain⟨fl,G,bM⟩:∃fl,s.files[i]?=some fl/\up l fl=f1:=by
    cases hq:s.files[i]? with
    |none=>rw[hq] at q1;cases q1
    |some fl=>rw[hq] at q1;exact⟨fl,rfl,by simpa using q1⟩
   have cx:∀l f,(up l f).name=f.name:=λl f=>by rw[N];simp only;split;exact bd f;rfl
   have bl:e.key=.string fl.name:=by rw[q3,<-bM,cx]
   have bn:gi l fl.name=false:=by
    cases hq:gi l fl.name with
    |false=>rfl
    |true=>
      obtain⟨e',cy,ea⟩:=nz.1 hq;have:=zm dn (Q e' cy) he (by rw[ea,bl]);subst this;exact absurd cy bA
   have cz:f1=fl:=by rw[<-bM,N];simp only;rw[bn];rfl
   subst cz;have cB:(s.files.map (up l))[i]?=some f1:=by rw[QV,G];simp[bM]
   have S:=(X.ent i f1 M cB q2).2;have a1:=QL q2;have eb:¬M.fp d:=by
    intro n;rcases Z d (.inr ⟨M,a1,n⟩) with q|q
    ·exact al q
    ·omega
   refine⟨aK M.p,by rw[q4];rfl,?_⟩;simp only[aw];have ew:=Dk.fm G;have ey:=Dk.kM G;refine Ju S dA zA dD (by omega) (by omega) (by omega) eb λc0 A' ec c3 B O ed=>?_;have c4:tG (λw=>jB kp (L.filter λx=>decide (x<w.no)).length) f1=C f1:=by rw[bD]
   rw[c4] at c3 B;have u:∀f:Fl,gi (l++[e]) f.name=(gi l f.name||(f.name.toList==f1.name.toList)):=by
    intro f;exact Ca bl
   have J:∀(j:Nat) (f:Fl),s.files[j]?=some f->j≠i->(f.name.toList==f1.name.toList)=false:=by
    intro j f hj P;cases hq:(f.name.toList==f1.name.toList) with
    |false=>rfl
    |true=>exact absurd (g.wf.inj hj G (ig (by simpa using hq))) P
   obtain⟨fB,oB⟩:=X.NM (H':=A') cB q2 (f':=C f1) (g':=c0) ec (bd f1) c3 (λb n T hl=>O.same b hl (by
    rintro(h|h)
    ·exact T h
    ·subst h;rcases Z b n with q|q
     ·exact al q
     ·omega)) ed
   have a6:(s.files.map (up l)).set i (C f1)=s.files.map (up (l++[e])):=by
    apply Sy;intro j;rw[Rx];by_cases bN:i=j
    ·subst bN;have ee:=(QJ.1 G).1;rw[if_pos rfl,if_pos (by simpa using ee),QV,G];simp only[UJ];rw[N];simp only[u];simp
    ·rw[if_neg bN,QV,QV];cases hj:s.files[j]? with
     |none=>rfl
     |some f=>
       simp only[UJ];rw[N];simp only[u,J j f hj (Sg bN),Yw]
   rw[a6] at fB;have c5:us (l++[e])=us l+(C f1).az.length:=by
    have:=Dx (λf:Fl=>if gi l f.name then (C f).az.length else 0) (λf:Fl=>if gi (l++[e]) f.name then (C f).az.length else 0) s.files i f1 G (λj f hj P=>by
     simp only[u,J j f hj P,Yw])
    have hg:gi (l++[e]) f1.name=true:=by rw[u];simp
    simp only[bn,hg,if_true,SL,if_false,Ux] at this;rw[an];exact this
   have bO:QI.wrap ((us l:Int)+((C f1).az.length:Int))=((us (l++[e]):Nat):Int):=by
    have:=V (l++[e]);rw[wrap64 (by omega) (by omega),c5];omega
   rw[bO] at B;have eg:aF EI jm A' z L:=zA.ar λb n hl=>O.same b hl (by
    rintro(h|h)
    ·obtain⟨c,t,q,ht⟩:=S.obj b h;obtain⟨c2,q2⟩:=zA.obj b n;rw[aM q q2] at ht;exact absurd ht (by decide)
    ·have:=b9 b n;omega)
   refine E () A' ⟨gs.set i c0,fB,B,?_,?_,eg⟩ ?_ ?_
   ·refine⟨QZ Y.size O.size,λb n T=>(O.same b (by have:=Y.size;omega) ?_).trans (Y.same b n T)⟩;rintro(h|h)
    ·rcases Z b (.inr ⟨M,a1,h⟩) with q|q
     ·exact T (.inl (.inr q))
     ·omega
    ·exact T (.inl (.inl h))
   ·intro b n;rcases oB b n with q|q
    ·exact Z b q
    ·have:=Y.size;omega
   ·refine O.same _ (aI D) ?_;rintro(h|h)
    ·exact X.xZ a1 h
    ·exact al (.inl h.symm)
   ·obtain⟨o,ho⟩:=R;refine O.same _ (aI ho) ?_;rintro(h|h)
    ·rcases Z _ (.inr ⟨M,a1,h⟩) with q|q
     ·have:=bh _ q;omega
     ·omega
    ·omega
  ·rintro l2 ⟨⟩ A ⟨gs,X,dA,Y,Z,zA⟩ a7 _;have bs:∀f∈s.files,gi l2 f.name=true:=by
    intro f hf;obtain⟨i,hi⟩:=QU.1 hf;obtain⟨g0,_,⟨e,he,h1,_⟩,_⟩:=g.files.Dl hi;exact nz.2 ⟨e,a7.mem_iff.2 he,h1⟩
   have hmap:s.files.map (up l2)=s.files.map s.after:=by
    apply TO;intro f hf;rw[N];simp only[bs f hf,if_true];exact U f
   rw[hmap] at X;have D:s.c8={s with files:=s.files.map s.after,down:=false,crash:=none}:=by unfold Dk.c8;rw[B];rfl
   have dc:(s.files.map λf=>if gi l2 f.name then (C f).az.length else 0)=(s.files.map s.after).map λf=>f.az.length:=by
    rw[R8];apply TO;intro f hf;rw[if_pos (bs f hf),U,Function.comp_apply]
   have W:us l2=s.c8.used:=by
    rw[D];unfold Dk.used;rw[<-dc,an]
   refine dA.st (i:=9) (by simp[fN]) (by rfl) λA1 d1 m1 s1=>?_;have ei:ao A1 d yS (fN x.m (us l2:Nat) s.most s.quota s.ops s.next s.crash.isSome cin kp false):=d1;refine jy (b:=d) (o:=6) (t:=yS) ei (by kernel_rfl) (by simp[fN]) (by intro v hv;simp at hv;rcases hv with rfl|rfl|rfl<;>rfl) λA2 d2 m2 s2=>?_;have ej:=dy.mW dA X;have b0:Mod (λb=>b=d) A A2:=m1.trans m2;have gg:dy ⟨x.m,x.es,x.clk,gs⟩ 0 0 A2 d s.c8:=by
    refine⟨?_,?_,?_,?_⟩
    ·rw[<-W];rw[D];exact d2
    ·rw[D];intro i k q;cases q
    ·rw[D];exact X.ar λb n hl=>b0.same b hl λe=>ej (e▸n)
    ·have hu2:=V l2;refine⟨?_,by rw[<-W,D];show us l2<=s.most;omega,by rw[D];exact w2,by rw[D];exact w3,by rw[D];simp;exact g.wf.files,(by rw[D];intro h;cases h),(by rw[D];intro i k q;cases q)⟩;rw[D];simp only[R8];exact g.wf.nodup
   have dk:Mod F H A2:=by
    have t1:Mod F H H6:=(bC.mono λb _ e=>(hF b).2 (.inl e)).trans (Ext.mod e6);have z6:=e6.size;refine⟨by have:=Y.size;have:=b0.size;omega,λb n T=>?_⟩;have P:b≠d:=λe=>T ((hF b).2 (.inl e));have ek:¬x.fp b:=λe=>T ((hF b).2 (.inr e));refine(b0.same b (by have:=Y.size;omega) P).trans ((Y.same b (by omega) ?_).trans (t1.same b n T));rintro((h|h)|h)
    ·exact P h
    ·exact ek h
    ·omega
   obtain⟨F',r1,r2⟩:=gg.out (x:=x) (F:=F) (H:=H) hF dk (λb n=>(Z b n).imp id (λq=>by have:=e6.size;omega));exact hK F' A2 r1 r2
end
theorem xG {s:Sl}{l:List (List UInt8)}{H:aa}{K:Unit->aa->Prop}(h:aF EN dG H s l)(hl:l.length<4611686018427387904)
  (v:∀H',aF EN dG H' s (l.mergeSort λx y=>decide (x<=y))->Mod (ai s) H H'->K () H'):Pb.sp s H K:=by
 intro w hw;subst hw;rcases id h.2 with ⟨i,M⟩|⟨g,cap,cur,i,C,q,D,E,z,F⟩
 ·have r:=h.n (by decide);have t:l=[]:=Ra (by omega);have u:=YB sortStr none 0 w;rw[i];refine u.mono λe w' ⟨he,c⟩=>?_;subst c;subst t;exact⟨_,he,⟨(),rfl,v _ (by simpa using h) (.refl _ _)⟩,.refl _⟩
 ·have r:=h.n (by decide);have k:=Bc l;have a:EN.size=1:=rfl;have m:∀x:List UInt8,encStr x=.string ⟨x.toArray⟩:=λ_=>rfl;have hH:Sort.Holds encStr w g 0 l.toArray:=by
   intro j G;have p:j<l.length:=by simpa using G
   have A:(EN.all l)[j]?=some (.string ⟨l[j].toArray⟩):=by rw[k];simp[p]
   rw[<-F,RF,if_pos (by rw[a];omega)] at A;refine⟨?_,?_⟩
   ·rw[R3];have:=cC (o:=j) q (by simpa using A);simp[p,m];exact this
   ·rw[R3];exact dJ q
  have u:=Y5 sortStr g 0 cap l w hH (aI q) hl;rw[i,r];refine u.mono λe w' ⟨he,n,os,c⟩=>?_;have hm:=RG l (λx y=>decide (x<=y));have f:(l.mergeSort λx y=>decide (x<=y)).length=l.length:=hm.length_eq;obtain⟨I,J,L,B⟩:=sH (enc:=encStr) (n:=n) (d:=(l.mergeSort λx y=>decide (x<=y)).toArray) (os:=os) q (by rw[z,a];simp[f];omega);subst c;refine⟨_,he,⟨(),rfl,v _ ⟨?_,.inr ⟨g,cap,_,i,C,I,D,E,by rw[L];exact z,?_⟩⟩ (J.mono λb _ e=>⟨⟨g,0,none⟩,?_,e.symm⟩)⟩,(.of_le rfl (SP _ _))⟩
  ·rw[Bc,a];simp[f,r]
  ·rw[Bc,a,Rz,r];have:(l.mergeSort λx y=>decide (x<=y)).toArray.size=l.length:=by simp[f]
   rw[this] at B;rw[B]
  ·cases s;simp only[Sl.v,Q2] at i;exact i.1
section
open Go.MapKept
def Dk.list (s:Dk):List (List UInt8):=if s.down then [] else (s.files.map λf=>f.name.toList).mergeSort λx y=>decide (x<=y)
theorem ye:tc QH dV dG EN.size 16:=fe (by kernel_rfl)
def nameOf (e:nW):List UInt8:=match gu e.key with|some n=>n.toList|none=>[]
theorem sx (n:ByteArray):cP n.toList=n:=by
 unfold cP;apply ByteArray.ext;simp[VN]
theorem lL {l r:List (List UInt8)}(h:l.Perm r):(l.mergeSort λx y=>decide (x<=y))=r.mergeSort λx y=>decide (x<=y):=by
 have e:∀a b c:List UInt8,decide (a<=b)=true->decide (b<=c)=true->decide (a<=c)=true:=λa b c h1 d=>by simp only[decide_eq_true_eq] at*;exact XF h1 d
 have to:∀a b:List UInt8,(decide (a<=b)||decide (b<=a))=true:=λa b=>by simp only[Sc,decide_eq_true_eq];exact ZX a b
 refine TE (le:=λa b=>decide (a<=b)=true) (λa b _ _ h1 d=>?_) (Sw e to l) (Sw e to r) (((RG l _).trans h).trans (RG r _).symm);simp only[decide_eq_true_eq] at h1 d;exact Zh h1 d
theorem As {l m cap:Nat}{es:Array nW}{clk:Nat}{H:aa}{K:Unit->aa->Prop}(I:List nW->aa->Prop)(hm:ct .string H m es clk)(g:ao H cap AJ #[.map (some m)])
  (d:∀e∈es.toList,∃n,e.key=.string n) (J:∀A,Mod (λ_=>False) H A->I [] A) (u:∀l A a,I l A->Mod (λb=>b=H.size) A a->a.size=A.size->I l a)
  (hs:∀ls e n A,I ls A->e∈es.toList->e.key=.string n->(∀y∈ls,y∈es.toList)->ls.Nodup->e∉ls->A[m]?=some (.map es clk)->H.size<A.size->cq QH l #[.string n] A λb a=>b=true/\I (ls++[e]) a/\a[m]?=A[m]?/\a[H.size]?=A[H.size]?)
  (j:∀ls A,I ls A->ls.Perm es.toList->K () A):G3.sp l ⟨cap,0,none⟩ H K:=by
 refine G3.of ?_;unfold G3.vc;have:=g.ld (c:=cd) (i:=0) (x:=some m) rfl (K:=λx=>bf aB QH (Instr.range AJ (.map x)) H λ(it:Option hY) H1=>ay Unit () H1 λnext _ L=>bf gM QH (Instr.next (.pointer it) false BN) L λ(M:Bool×List gp) B=>br M.1 (bf pS QH (Instr.entry (.pointer it)) B λ(N:gp×gp) O=>JA aN N.1 λ(k:ByteArray)=>cq QH l #[.string k] O λ(b:Bool) C=>br (!b) (K () C) (next () C)) (K () B));refine this ?_;obtain⟨U,inf,hu,_,_,_⟩:=mQ;refine qF hu hm λH1 p D=>?_;have q:H.size<H1.size:=aI p;refine ry (it:=H.size) (λls _ A=>I ls A/\H.size<A.size) (hm.ar (D.same _ hm.lt id)) p ⟨J H1 D,q⟩ (λl x A a h m s=>⟨u l A a h.1 m s,by omega⟩) ?_ (λls x A h P _=>j ls A h.1 P);rintro ls e ⟨⟩ A next ⟨Q,v⟩ he w r z R t f
 obtain⟨n,E⟩:=d e he;refine⟨n,by rw[E],?_⟩;refine(hs ls e n A Q he E r z w R v).mono λb a S=>?_;obtain⟨rfl,h1,T,F⟩:=S;refine aE rfl (f () a ⟨h1,?_⟩ T F);obtain⟨o,G⟩:=t;rw[<-F] at G;exact aI G
theorem vp {m cap:Nat}{es:Array nW}{clk:Nat}{H:aa}{K:Sl->aa->Prop}(hm:ct .string H m es clk)(z:ao H cap AJ #[.map (some m)])
  (C:∀e∈es.toList,∃n,e.key=.string n) (hlen:es.size<=1048576)
  (hK:∀(s:Sl) (ls:List nW) (H':aa),aF EN dG H' s (ls.map nameOf)->ls.Perm es.toList->Mod (λ_=>False) H H'->(∀b,ai s b->H.size<=b)->K s H'):
  Ly.sp (Sl.mk none 0 0) (.func (.func G3.no) #[] #[.pointer (some ⟨cap,0,none⟩)]) H K:=by
 refine Ly.of ?_;unfold Ly.vc;refine au λH1 s1 V m1=>?_;have g:c6 QH G3.no=true:=by kernel_rfl
 refine⟨_,_,rfl,g,λrec d=>?_⟩;obtain⟨r,W⟩:∃r,r=H1.size:=⟨_,rfl⟩;obtain⟨l,hl⟩:∃l,l=H1.size+1:=⟨_,rfl⟩;obtain⟨p,P⟩:∃p,p=H.size:=⟨_,rfl⟩;rw[<-hl] at d ⊢;rw[<-W];rw[<-P] at V;rw[<-P] at d;rw[<-P];obtain⟨f,t⟩:∃f:aa,f=(H1.push (.deferred (some []))).push (.loop (rec .ready none)):=⟨_,rfl⟩;rw[<-t];have N:Mod (λ_=>False) H1 f:=by rw[t];exact(Mod.push _ _ _).trans (Mod.push _ _ _)
 have sB:f.size=H1.size+2:=by rw[t];simp
 have lB:f[l]?=some (.loop (rec .ready none)):=by rw[t,hl,TM,if_pos (by simp)]
 have rB:f[r]?=some (.deferred (some [])):=by rw[t,W];simp[TM]
 have pB:ao f p dV #[(Sl.mk none 0 0).v]:=V.ext N;have mB:ct .string f m es clk:=(hm.ar (m1.same _ hm.lt id)).ar (N.same _ (by have:=hm.lt;omega) id);have cB:ao f cap AJ #[.map (some m)]:=(z.ext m1).ext N;have af:=hm.lt;have al:cap<H.size:=aI z
 let I:List nW->aa->Prop:=λls A=>A[l]?=some (.loop (rec .ready none))/\A[r]?=some (.deferred (some []))/\(∃s,ao A p dV #[s.v]/\aF EN dG A s (ls.map nameOf)/\(∀b,ai s b->f.size<b))/\Mod (λb=>b=p\/b=l\/b=f.size) f A
 refine Spec.mono (R:=λv H'=>∃x:Unit,v=(aW []).enc x/\oS l rec H' _ _ _) (As (l:=l) (m:=m) (cap:=cap) (H:=f) (K:=λ_ H'=>oS l rec H' _ _ _) I mB cB C ?_ ?_ ?_ ?_) (λv H' ⟨x,_,h⟩=>h)
 ·intro A u;exact⟨u.at lB id,u.at rB id,⟨_,pB.ext u,aF.nil _ _ _,by rintro b ⟨ad,q,_⟩;cases q⟩,Ext.mod u⟩
 ·rintro ls A O ⟨i1,i2,⟨s,i3,i4,i5⟩,i6⟩ u hs;refine⟨u.at i1 (by omega),u.at i2 (by omega),⟨s,i3.mod u (by omega),i4.ar λb a j=>u.same b j (by have:=i5 b a;omega),i5⟩,i6.trans (u.mono λb _ e=>.inr (.inr e))⟩
 ·rintro ls e n A ⟨i1,i2,⟨s,i3,i4,i5⟩,i6⟩ he hn J Q an S a1;refine d [.string n] A _ i1 ?_;show ji (some n) _;refine⟨i1,?_⟩;obtain⟨D,w⟩:∃D:aa,D=A.setIfInBounds l (.loop (rec .busy none)):=⟨_,rfl⟩;rw[<-w];have o:Mod (λb=>b=l) A D:=by rw[w];exact Mod.setObj rfl
  have a6:D.size=A.size:=by rw[w];simp
  have T:D[l]?=some (.loop (rec .busy none)):=by rw[w];exact gS i1
  have L:p≠l:=by omega
  have p1:=i3.mod o L;refine p1.ld (c:=aq) (i:=0) (x:=s) rfl ?_;have X:∀b,ai s b->b≠l:=λb a=>by have:=i5 b a;omega
  have o1:aF EN dG D s (ls.map nameOf):=i4.ar λb a j=>o.same b j (X b a);have a7:(ls.map nameOf).length<=1048576:=by
   have:=TA Q (l₂:=es.toList) (λy hy=>J y hy);simp at this ⊢;omega
  have U:nameOf e=n.toList:=by unfold nameOf;rw[hn];rfl
  refine aF.push (E:=EN) ye (x:=n.toList) o1 (by have:=sx n;unfold cP at this;simp[EN,this]) (by omega) (by omega) λs2 Y o2 g2 _=>?_;have lp:p<D.size:=aI p1;have tp:∀b,ai s b->b≠p:=λb a=>by have:=i5 b a;omega
  have p2:ao Y p dV #[s.v]:=p1.mod g2.1 (λa=>tp _ a rfl);have a8:=i6.size;have t2:∀b,ai s2 b->f.size<b:=λb a=>by
   rcases g2.2 b a with q|q
   ·exact i5 b q
   ·omega
  have B:=p2.st (i:=0) (v:=s2.v) (by simp) rfl (K:=λZ=>Z[l]?=some (.loop (rec .busy none))/\(λb O=>b=true/\I (ls++[e]) O/\O[m]?=A[m]?/\O[f.size]?=A[f.size]?) true (Z.setIfInBounds l (.loop (rec .ready none))));rw[show (Ru ⟨p,0,none⟩ 0)=⟨p,0,none⟩ from rfl] at B;refine B λk p3 m3 s3=>?_;have l2:Y[l]?=some (.loop (rec .busy none)):=g2.1.at T (λa=>X _ a rfl);have l3:k[l]?=some (.loop (rec .busy none)):=m3.at l2 (by omega);refine⟨l3,rfl,⟨gS l3,?_,⟨s2,?_,?_,t2⟩,?_⟩,?_,?_⟩
  ·have m4:Mod (λb=>b=l) k (k.setIfInBounds l (.loop (rec .ready none))):=Mod.setObj rfl;exact m4.at (m3.at (g2.1.at (o.at i2 (by omega)) (λa=>by have:=i5 _ a;omega)) (by omega)) (by omega)
  ·have m4:Mod (λb=>b=l) k (k.setIfInBounds l (.loop (rec .ready none))):=Mod.setObj rfl;exact ao.mod (show ao k p dV #[s2.v] from p3) m4 L
  ·have m4:Mod (λb=>b=l) k (k.setIfInBounds l (.loop (rec .ready none))):=Mod.setObj rfl;rw[Rm,Q7,TD,U];refine o2.ar λb a j=>?_;have:=t2 b a;exact(m4.same b (by omega) (by omega)).trans (m3.same b j (by omega))
  ·have m4:Mod (λb=>b=l) k (k.setIfInBounds l (.loop (rec .ready none))):=Mod.setObj rfl;have z2:=g2.1.size;refine i6.trans' (G:=λb=>(b=l\/ai s b)\/b=p) ?_ ?_
   ·exact(((o.mono λb _ e=>.inl (.inl e)).trans (g2.1.mono λb _ e=>.inl (.inr e))).trans (m3.mono λb _ e=>.inr e)).trans (m4.mono λb _ e=>.inl (.inl e))
   ·rintro b a ((e|e)|e)
    ·exact .inr (.inl e)
    ·have:=i5 b e;omega
    ·exact .inl e
  ·have m4:Mod (λb=>b=l) k (k.setIfInBounds l (.loop (rec .ready none))):=Mod.setObj rfl;have z2:=g2.1.size;have M:=aI S;exact(m4.same _ (by omega) (by omega)).trans ((m3.same _ (by omega) (by omega)).trans ((g2.1.same _ (by omega) (λa=>by have:=i5 _ a;omega)).trans (o.same _ M (by omega))))
  ·have m4:Mod (λb=>b=l) k (k.setIfInBounds l (.loop (rec .ready none))):=Mod.setObj rfl;have z2:=g2.1.size;exact(m4.same _ (by omega) (by omega)).trans ((m3.same _ (by omega) (by omega)).trans ((g2.1.same _ (by omega) (λa=>by have:=i5 _ a;omega)).trans (o.same _ (by omega) (by omega))))
 ·rintro ls A ⟨i1,i2,⟨s,i3,i4,i5⟩,i6⟩ F;refine⟨.ready,none,i1,rfl,?_⟩;show ld aq _ _ _;have m4:Mod (λb=>b=l) A (A.setIfInBounds l (.loop (rec .exhausted none))):=Mod.setObj rfl;have p4:=i3.mod m4 (by omega);refine p4.ld (c:=aq) (i:=0) (x:=s) rfl ?_;have r4:=m4.at i2 (by omega);refine⟨r4,?_⟩;have m5:Mod (λb=>b=r) (A.setIfInBounds l (.loop (rec .exhausted none))) ((A.setIfInBounds l (.loop (rec .exhausted none))).setIfInBounds r (.deferred none)):=Mod.setObj rfl;have z6:=i6.size;have z4:=m4.size;refine hK s ls _ ?_ F ?_ (λb a=>by have:=i5 b a;omega)
  ·refine i4.ar λb a j=>?_;have:=i5 b a;exact(m5.same b (by omega) (by omega)).trans (m4.same b j (by omega))
  ·have z5:=m5.size;refine⟨by omega,λb a _=>(m5.same b (by omega) (by omega)).trans ((m4.same b (by omega) (by omega)).trans ((i6.same b (by omega) (by omega)).trans ((N.same b (by omega) id).trans (m1.same b a id))))⟩
theorem xb {F:Nat->Prop}{d:Nat}{s:Dk}{H:aa}{K:Sl->aa->Prop}(h:bw F H d s)(p:∀l H',aF EN dG H' l s.list->Mod (λ_=>False) H H'->(∀b,ai l b->H.size<=b)->K l H'):Iy.sp (aK d) H K:=by
 obtain⟨x,cin,kp,g,C⟩:=h;refine Iy.of ?_;unfold Iy.vc;refine mT g.head (down:=s.down) rfl ?_;cases hd:s.down with
 |true=>
   refine aR rfl (p _ H ?_ (.refl _ _) (by rintro b ⟨ad,q,_⟩;cases q));unfold Dk.list;rw[hd];exact aF.nil _ _ _
 |false=>
   refine aE rfl ?_;refine g.head.ld (c:=cd) (i:=0) (x:=some x.m) rfl ?_;refine Nt.of ?_;unfold Nt.vc;refine au λH1 s1 t m1=>?_;refine MP.of ?_;unfold MP.vc;refine Mt.of ?_;unfold Mt.vc;have j:ct .string H1 x.m x.es x.clk:=g.files.map.ar (m1.same _ g.files.map.lt id);have m:=g.wf.files;have u:=g.files.size;refine vp j t (λe he=>?_) (by omega) λsl ls D v w m2 f2=>?_
   ·obtain⟨i,f,E,_,_,y,_⟩:=g.files.ent' e.key e.val ⟨e,he,rfl,rfl⟩;exact⟨_,y⟩
   have a:(ls.map nameOf).Perm (s.files.map λf=>f.name.toList):=by
    have h1:=((w.map (·.key)).trans (g.files.perm g.wf)).map λk=>match gu k with|some n=>n.toList|none=>[]
    rw[R8,R8] at h1;exact h1
   have z:(ls.map nameOf).length<=4096:=by rw[a.length_eq];simpa using m
   refine xG v (by omega) λA r m3=>?_;rw[lL a] at r;have G:=m1.size;have z2:=m2.size;have z3:=m3.size;refine p sl A ?_ ⟨by omega,λb o _=>(m3.same b (by omega) λB=>by have:=f2 b B;omega).trans ((m2.same b (by omega) id).trans (m1.same b o id))⟩ (λb o=>by have:=f2 b o;omega);unfold Dk.list;rw[hd];exact r
end
section
open Go.MapKept
section
variable {H A:aa}{d:Nat}{s:Dk}{n:ByteArray}
end
end
section
open Go.MapKept
end
structure Bd (s:Pl)(x y:Nat):Prop where
 fit:s.Fit
 lo:0<=s.next
 hi:s.next<=(x:Int)
 aH:s.d.aH<=y
section
variable {s:Pl}{x y:Nat}{n:ByteArray}{w:RW}{r:RR}{W:Int}
theorem Bd.mono {x' y':Nat}(h:Bd s x y)(b:x<=x')(a:y<=y'):Bd s x' y':=⟨h.fit,h.lo,by have:=h.hi;omega,QZ h.aH a⟩
theorem Pl.Nb {k:Int}(a:0<=s.next)(h1:s.next<1099511627776):s.next<=(s.bF n k).1.next:=by
 unfold Pl.bF;split
 ·exact TG _
 ·split
  ·rw[Pl.uv s _ a h1];omega
  ·rcases s.ph n k with ⟨e,he⟩|⟨e,he⟩|⟨f,he,_⟩
   ·rw[he];show _<=(s.met e).next;rw[(s.eT e).2.2.1];omega
   ·rw[he];show _<=(s.room.1.met e).next;rw[(s.room.1.eT e).2.2.1,s.cI.2.1];omega
   ·rw[he];show _<=(s.room.1.take f).next;rw[Pl.nI _ _ (by rw[s.cI.2.1];exact a) (by rw[s.cI.2.1];exact h1),s.cI.2.1];omega
theorem Pl.HU (b:0<=s.next)(h1:s.next<1099511627776):s.next<=(s.fresh n).1.next:=by
 have a:=s.cI.2.1;unfold Pl.fresh;split
 ·exact TG _
 ·split
  ·show _<=(s.met _).next;rw[(s.eT _).2.2.1];omega
  ·split
   ·show _<=(s.room.1.met _).next;rw[(s.room.1.eT _).2.2.1,a];omega
   ·split
    ·show _<=((s.room.1.bJ _).met _).next
     rw[((s.room.1.bJ _).eT _).2.2.1];show _<=s.room.1.next;rw[a];omega
    ·show _<=((s.room.1.bJ _).take _).next
     rw[Pl.nI _ _ (by show 0<=s.room.1.next;rw[a];exact b) (by show s.room.1.next<_;rw[a];exact h1)];show _<=s.room.1.next+1;rw[a];omega
theorem Bd.bF (h:Bd s x y)(g:x<1000000000000)(k:Int):Bd (s.bF n k).1 (x+1) (y+1):=by
 have a:=h.lo;have b:=h.hi;have c:=s.mF (n:=n) (k:=k) a (by omega);have d:=s.Nb (n:=n) (k:=k) a (by omega);have e:=s.uM n k;have f:=h.aH;exact⟨h.fit.bF n k,by omega,by omega,by omega⟩
theorem Bd.fresh (h:Bd s x y)(g:x<1000000000000):Bd (s.fresh n).1 (x+1) (y+2):=by
 have a:=h.lo;have b:=h.hi;have c:=s.oP (n:=n) a (by omega);have d:=s.HU (n:=n) a (by omega);have e:=s.BH n;have f:=h.aH;exact⟨h.fit.fresh n,by omega,by omega,by omega⟩
theorem Bd.set (h:Bd s x y)(c:Int)(k:UInt8)(b:List UInt8):Bd (s.set c k b).1 x y:=
 ⟨h.fit.set c k b,by rw[Pl.j5];exact h.lo,by rw[Pl.j5];exact h.hi,by rw[Pl.G8];exact h.aH⟩
theorem Bd.bk (h:Bd s x y)(c:Int):Bd (s.bk c).1 x y:=
 ⟨h.fit.bk c,by rw[Pl.uE];exact h.lo,by rw[Pl.uE];exact h.hi,by rw[Pl.Dg];exact h.aH⟩
theorem Bd.leave {q:Pl×Int}(h:Bd q.1 x y)(c:Int):Bd (Pl.leave q c).1 x y:=by
 unfold Pl.leave;split
 ·exact h.bk c
 ·exact h
theorem Bd.more (h:Bd s x y)(a:x<1000000000000)(k:UInt8)(b:List UInt8):Bd (s.more n k b).1 (x+1) (y+2):=by
 have f:=h.fresh (n:=n) a;unfold Pl.more;split
 ·exact f
 ·refine Bd.leave ?_ _;split
  ·exact f
  ·exact f.set _ _ _
theorem Bd.look (h:Bd s x y)(a:x<1000000000000)(k:Int):Bd (s.look n k).1 (x+1) (y+1):=by
 have f:=h.bF (n:=n) a k;unfold Pl.look;split
 ·exact f
 ·split
  ·exact f
  ·exact f.bk _
theorem Bd.create (h:Bd s x y):Bd (s.bJ (s.d.create n).1) x y:=
 ⟨h.fit.bJ (s.d.kL n),h.lo,h.hi,QZ (s.d.mN n) h.aH⟩
theorem Bd.out (h:Bd s x y)(a:x<1000000000000):Bd (w.out s).1 (x+1) (y+2):=by
 have m:=h.mono (RB x) (SP y 2);unfold RW.out;split
 ·exact m
 ·exact h.more a _ _
theorem Bd.add (h:Bd s x y)(a:x<1000000000000)(l:List Int):Bd (w.add s l).1 (x+1) (y+2):=by
 have m:=h.mono (RB x) (SP y 2);unfold RW.add;split
 ·exact m
 ·split
  ·exact m
  ·split
   ·exact m
   ·split
    ·exact m
    ·exact h.out a
theorem Bd.make (h:Bd s x y)(a:x<1000000000000):Bd (bo s n W).1 (x+1) (y+2):=by
 have m:=h.mono (RB x) (SP y 2);have c:=h.create (n:=n);unfold bo;split
 ·exact m
 ·split
  ·exact c.mono (RB x) (SP y 2)
  ·split<;>exact c.more a _ _
theorem Bd.open (h:Bd s x y)(a:x<1000000000000):Bd (rnOpen s n W).1 (x+1) (y+1):=by
 have m:=h.mono (RB x) (RB y);have c:=h.look (n:=n) a 0;unfold rnOpen;split
 ·exact m
 ·split
  ·exact c
  ·split
   ·exact c
   ·split
    ·exact c
    ·split<;>exact c
theorem Bd.load (h:Bd s x y)(a:x<1000000000000)(j:Nat):Bd (r.load s j).1 (x+1) (y+1):=by
 have m:=h.mono (RB x) (RB y);have c:=h.look (n:=r.b.name) a ((j:Int)+1);unfold RR.load;split
 ·exact m
 ·split
  ·exact c
  ·split<;>exact c
theorem Bd.next (h:Bd s x y)(a:x<1000000000000):Bd (r.next s).1 (x+1) (y+1):=by
 have m:=h.mono (RB x) (RB y);have c:=h.load (r:=r) a (r.at_/r.b.room);unfold RR.next;split
 ·exact m
 ·split
  ·exact m
  ·split<;>exact c
theorem je {n:ByteArray}:∀(l:List Nat) {s:Pl},(Pl.bq n l s).1.fs.length=s.fs.length
 |[],s=>rfl
 |k::l,s=>by
   unfold Pl.bq;split
   ·rename_i i _;have hk:(s.put i).1.fs.length=s.fs.length:=by simpa using congrArg VL (s.ur i)
    split
    ·split
     ·rw[je l];exact hk
     ·exact hk
    ·exact je l
   ·exact je l
theorem Bd.flush (h:Bd s x y)(a:s.fs.length<=4096):Bd (s.flush n).1 x (y+4096):=
 ⟨h.fit.flush n,by rw[Pl.uN];exact h.lo,by rw[Pl.uN];exact h.hi,by have:=s.AY n;have:=h.aH;omega⟩
theorem Pl.xo (r:Pl×Int):(Pl.out r).1.fs.length=r.1.fs.length:=by
 show (r.1.met r.2).fs.length=_;rw[(r.1.eT r.2).2.1]
theorem Pl.EJ (s:Pl)(n:ByteArray):(s.flush n).1.fs.length=s.fs.length:=by
 unfold Pl.flush;split
 ·rfl
 ·split
  ·exact Pl.xo _
  ·split
   ·rw[Pl.xo];exact je _
   ·rw[Pl.xo];exact je _
theorem Bd.head (h:Bd s x y)(a:x<1000000000000)(hw:(w.head s).1.fs.length<=4096):Bd (w.head s).1 (x+1) (y+4100):=by
 have f:=h.bF (n:=w.b.name) a 0;unfold RW.head at hw ⊢;split
 ·exact f.mono (QN _) (by omega)
 ·rename_i h1;rw[if_neg h1] at hw;have g:=(f.set (s.bF w.b.name 0).2.1 2 (ft w.b.width w.rows));have g2:=Bd.leave (q:=(s.bF w.b.name 0).1.set (s.bF w.b.name 0).2.1 2 (ft w.b.width w.rows)) g (s.bF w.b.name 0).2.1;split
  ·exact g2.mono (QN _) (by omega)
  ·rename_i b;rw[if_neg b,Pl.EJ] at hw;exact(g2.flush (n:=w.b.name) hw).mono (QN _) (by omega)
theorem Bd.close (h:Bd s x y)(b:x<999999999999)(hw:(w.close s).1.fs.length<=4096):Bd (w.close s).1 (x+2) (y+4200):=by
 have o:=h.out (w:=w) (by omega);unfold RW.close at hw ⊢;split
 ·exact h.mono (by omega) (by omega)
 ·rename_i h1;rw[if_neg h1] at hw;split
  ·exact o.mono (by omega) (by omega)
  ·rename_i a;rw[if_neg a] at hw;have e:((w.out s).2.1.ends (w.out s).1).1=((w.out s).2.1.head (w.out s).1).1:=by unfold RW.ends;split<;>rfl
   rw[e] at hw ⊢;exact(o.head (by omega) hw).mono (by omega) (by omega)
theorem Bd.c9 (h:Bd s x y):Bd (s.c9 n).1 x y:=
 ⟨h.fit.c9 n,by rw[Pl.tE];exact h.lo,by rw[Pl.tE];exact h.hi,QZ (s.BJ n) h.aH⟩
end
section
open Go.MapKept
def kz:eZ ByteArray:=⟨1,λx=>[.string x],λ_=>rfl,λx u hu=>by simp at hu;subst hu;rfl⟩
theorem BG:tc QH dV dG 1 16:=fe (by kernel_rfl)
theorem OM:tc QH OD OX 1 8:=fe (by kernel_rfl)
theorem bX.one {α:Type}{E:eZ α}{H:aa}{s:Sl}{l:List α}(h:bX E H s.a l)(g:s.n=l.length)(hs:E.size=1){i:Nat}{x:α}{c:fg}{y:c.α}(hi:l[i]?=some x)(e:E.enc x=[c.enc y]){K:c.α->Prop}(f:K y):
  ae s.a λa=>(0<=(i:Int)/\(i:Int)<(s.n:Int))/\sz c H (a.add ((i:Int).toNat*1)) K:=by
 have hl:=(QJ.1 hi).1;obtain⟨ad,b⟩:=h.addr (by omega) (by omega);refine aZ ad b ⟨⟨by omega,by omega⟩,?_⟩;have:=bX.ld (c:=c) (K:=K) h b (i:=i) (j:=0) hi (by rw[e];rfl) (n:=i*1) (by rw[hs]) f;rw[add_add] at this;rw[QP];exact this
theorem qh {s:Pl}{n:ByteArray}{W:Int}:((rnOpen s n W).2.1=none->(rnOpen s n W).2.2≠0)/\((rnOpen s n W).2.1≠none->(rnOpen s n W).2.2=0):=by
 unfold rnOpen;split
 ·exact⟨λ_=>by simp,λq=>absurd rfl q⟩
 ·split
  ·rename_i h;exact⟨λ_=>h,λq=>absurd rfl q⟩
  ·split
   ·exact⟨λ_=>by simp,λq=>absurd rfl q⟩
   ·split
    ·rename_i h;exact⟨λ_=>h,λq=>absurd rfl q⟩
    ·split
     ·exact⟨λq=>(by cases q),λ_=>rfl⟩
     ·exact⟨λ_=>by simp,λq=>absurd rfl q⟩
theorem tt {W:Int}:∀{ns:List ByteArray} {s:Pl} {x y:Nat},Bd s x y->x+ns.length<1000000000000->Bd (bc W ns s).1 (x+ns.length) (y+ns.length)
 |[],s,x,y,h,_=>h
 |n::ns,s,x,y,h,a=>by
   rw[Rr] at a ⊢;have h1:=h.open (n:=n) (W:=W) (by omega);simp only[bc];split
   ·exact h1.mono (by omega) (by omega)
   ·have:=tt (W:=W) (ns:=ns) h1 (by omega);exact this.mono (by omega) (by omega)
theorem RR.fC {r:RR}(h:r.Ok)(s:Pl):(r.next s).2.1.Ok/\(r.next s).2.1.b.name=r.b.name/\(r.next s).2.1.rows=r.rows/\((r.next s).2.2.2.1=true->r.at_<r.rows/\(r.next s).2.1.at_=r.at_+1/\(r.next s).2.2.2.2=0/\(r.next s).2.2.1.length<=16)/\((r.next s).2.2.2.1=false->(r.next s).2.1.at_=r.at_):=by
 obtain⟨a,c,g,k,f,l⟩:=RR.qb (s:=s) (j:=r.at_/r.b.room) h;have m:=h.at_;unfold RR.next;split
 ·exact⟨h,rfl,rfl,λq=>(by cases q),λ_=>rfl⟩
 ·split
  ·exact⟨h,rfl,rfl,λq=>(by cases q),λ_=>rfl⟩
  ·rename_i i;split
   ·exact⟨a,f,c,λq=>(by cases q),λ_=>g⟩
   ·refine⟨⟨a.room,?_,a.page,a.rows,a.cols⟩,f,c,λ_=>⟨by omega,rfl,rfl,?_⟩,λq=>(by cases q)⟩
    ·show r.at_+1<=(r.load s (r.at_/r.b.room)).2.1.rows;rw[c];omega
    ·show ((r.load s (r.at_/r.b.room)).2.1.ins.getD (r.at_%r.b.room) []).length<=16;rw[RY];cases e:(r.load s (r.at_/r.b.room)).2.1.ins[r.at_%r.b.room]? with
     |none=>exact Q5 _
     |some q=>exact a.cols q (QL e)
structure oh where
 k:Nat
 r:RR
 si:Sl
 srs:List Sl
def oh.own (x:oh)(b:Nat):Prop:=oI x.k x.si x.srs b
structure eS (H0:aa)(F0:Nat->Prop)(col:Nat->Nat)(p dp:Nat)(F:Nat->Prop)(A:aa)(s:Pl)(xs:List oh)(l:Sl):Prop where
 aj:aA F A p dp s
 rds:∀(i:Nat) (x:oh),xs[i]?=some x->AM A x.k p x.r x.si x.srs
 oks:∀x∈xs,x.r.Ok/\x.r.b.name.size<=9223372036854775807
 list:aF dW OX A l (xs.map (·.k))
 cF:∀b,F b->col b=0/\(F0 b\/H0.size<=b)
 cR:∀(i:Nat) (x:oh),xs[i]?=some x->∀b,x.own b->col b=5+i/\H0.size<=b
 cL:∀b,ai l b->col b=4/\H0.size<=b
 mod:Mod F0 H0 A
section
variable {H0 A:aa}{F0 F:Nat->Prop}{col:Nat->Nat}{p dp:Nat}{s:Pl}{xs:List oh}{l:Sl}
theorem eS.gl (h:eS H0 F0 col p dp F A s xs l)(a:Gl H0)(b:¬F0 bt):Gl A:=a.mod h.mod b
theorem eS.step (h:eS H0 F0 col p dp F A s xs l):Step F0 F H0 A:=⟨h.mod,λb a=>(h.cF b a).2⟩
theorem eS.lt (h:eS H0 F0 col p dp F A s xs l){i:Nat}{x:oh}(a:xs[i]?=some x):∀b,x.own b->b<A.size:=(h.rds i x a).lt
theorem eS.tP {G:Nat->Prop}{F':Nat->Prop}{B:aa}{s':Pl}{col':Nat->Nat}(h:eS H0 F0 col p dp F A s xs l)(j:aA F' B p dp s')(m:Mod G A B)(f:∀b,b<A.size->G b->col b<4)(e:∀b,b<H0.size->G b->F0 b)
  (k:∀b,F' b->col' b=0/\(F0 b\/H0.size<=b)) (g:∀b,b<A.size->4<=col b->col' b=col b):eS H0 F0 col' p dp F' B s' xs l:=by
 refine⟨j,λi x c=>(h.rds i x c).mod m λb a q=>?_,h.oks,h.list.mod m λb a q=>?_,k,λi x c b a=>?_,λb a=>?_,h.mod.trans' m e⟩
 ·have:=f b (h.lt c b a) q;have:=(h.cR i x c b a).1;omega
 ·have:=f b (h.list.lt b a) q;have:=(h.cL b a).1;omega
 ·have:=h.cR i x c b a;rw[g b (h.lt c b a) (by omega)];exact this
 ·have:=h.cL b a;rw[g b (h.list.lt b a) (by omega)];exact this
theorem eS.ext {B:aa}(h:eS H0 F0 col p dp F A s xs l)(e:Ext A B):eS H0 F0 col p dp F B s xs l:=
 h.tP (h.aj.ext e) e (λ_ _ q=>q.elim) (λ_ _ q=>q.elim) h.cF λ_ _ _=>rfl
theorem iI (col:Nat->Nat)(n:Nat)(X Y Z:Nat->Prop)(a c e:Nat)(h1:∀b,X b->¬Y b)(g:∀b,X b->¬Z b)(h:∀b,Y b->¬Z b):∃col':Nat->Nat,(∀b,b<n->col' b=col b)/\∀b,n<=b->(X b->col' b=a)/\(Y b->col' b=c)/\(Z b->col' b=e):=by
 classical
 refine⟨λb=>if b<n then col b else if X b then a else if Y b then c else e,λb f=>if_pos f,λb f=>⟨λq=>?_,λq=>?_,λq=>?_⟩⟩
 ·show (if b<n then _ else _)=_;rw[if_neg (by omega),if_pos q]
 ·show (if b<n then _ else _)=_;rw[if_neg (by omega),if_neg λu=>h1 b u q,if_pos q]
 ·show (if b<n then _ else _)=_;rw[if_neg (by omega),if_neg λu=>g b u q,if_neg λu=>h b u q]
theorem eS.next {K:(Sl×Bool×Int)->aa->Prop}{i:Nat}{x:oh}{u v:Nat}(h:eS H0 F0 col p dp F A s xs l)(M:Gl H0)(O:¬F0 bt)(t:xs[i]?=some x)(b:Bd s u v)(hu:u<1000000000000)(S:v<68719470000)
  (P:∀F' B col' x' row,eS H0 F0 col' p dp F' B (x.r.next s).1 (xs.set i x') l->x'.k=x.k->x'.r=(x.r.next s).2.1->aO B 0 fM 1 row ((x.r.next s).2.2.1.map (QT .u64))->(∀b,ai row b->A.size<=b/\col' b=3)->(∀b,b<A.size->col' b=col b)->Mod (λb=>F b\/b=x.k) A B->
   K (row,(x.r.next s).2.2.2.1,(x.r.next s).2.2.2.2) B):Fm.sp (aK x.k) A K:=by
 have G:=QL t;obtain⟨ok,N⟩:=h.oks x G;have hi:=(QJ.1 t).1;have I:=h.gl M O;have dis:∀b,F b->¬oI x.k x.si x.srs b:=λb a q=>by
  have:=(h.cF b a).1;have:=(h.cR i x t b q).1;omega
 have J:=b.lo;have Q:=b.hi;have R:=b.aH;have L:bt≠x.k:=λq=>by
  have:=(h.cR i x t x.k (.inl rfl)).2;have:=M.lt;omega
 refine uQ I h.aj.fi L (⟨h.aj,h.rds i x t,dis,.refl _ _,λ_ q=>.inl q,λ_ q=>.inl q⟩:jr A F (oI x.k x.si x.srs) x.k p dp x.si x.srs F A s x.r) ok N (by omega) (by omega) J λF' D C B row g o f=>?_;obtain⟨col',c1,c2⟩:=iI col A.size F' (oI x.k D C) (ai row) 0 (5+i) 3 g.dis (λb q r=>(f b r).2.1 q) (λb q r=>(f b r).2.2 q);have E:=RR.fC ok s;have z:=g.mod.size;have ar:∀(j:Nat) (y:oh),j≠i->xs[j]?=some y->∀b,y.own b->¬(F b\/b=x.k):=λj y T m b a q=>by
  have c:=(h.cR j y m b a).1;rcases q with q|q
  ·have:=(h.cF b q).1;omega
  ·have:=(h.cR i x t b (by subst q;exact .inl rfl)).1;omega
 refine P F' B col' ⟨x.k,(x.r.next s).2.1,D,C⟩ row ⟨g.aj,λj y m=>?_,λy m=>?_,?_,λb a=>?_,λj y m b a=>?_,λb a=>?_,?_⟩ rfl rfl o (λb a=>⟨(f b a).1,(c2 b (f b a).1).2.2 a⟩) c1 g.mod
 ·by_cases q:j=i
  ·subst q;rw[RT hi] at m;cases m;exact g.rd
  ·rw[RO (Sg q)] at m;exact(h.rds j y m).mod g.mod (ar j y q m)
 ·rcases SH m with q|q
  ·exact h.oks y q
  ·subst q;exact⟨E.1,by show (x.r.next s).2.1.b.name.size<=_;rw[E.2.1];exact N⟩
 ·have e:(xs.set i ⟨x.k,(x.r.next s).2.1,D,C⟩).map (·.k)=xs.map (·.k):=by
   rw[R9];apply Sy;intro j;rw[Rx];split
   ·rename_i q;subst q;rw[QV,t];simp[hi]
   ·rfl
  rw[e];exact h.list.mod g.mod λb a q=>by
   have c:=(h.cL b a).1;rcases q with q|q
   ·have:=(h.cF b q).1;omega
   ·have:=(h.cR i x t b (by subst q;exact .inl rfl)).1;omega
 ·rcases g.own b a with q|q
  ·rw[c1 b (h.aj.lt b q)];exact h.cF b q
  ·exact⟨(c2 b q).1 a,.inr (by have:=h.mod.size;omega)⟩
 ·by_cases q:j=i
  ·subst q;rw[RT hi] at m;cases m;rcases g.own2 b a with q|q
   ·rw[c1 b (h.lt t b q)];exact h.cR j x t b q
   ·exact⟨(c2 b q).2.1 a,by have:=h.mod.size;omega⟩
  ·rw[RO (Sg q)] at m;rw[c1 b (h.lt m b a)];exact h.cR j y m b a
 ·rw[c1 b (h.list.lt b a)];exact h.cL b a
 ·refine h.mod.trans' g.mod λb a q=>?_;rcases q with q|q
  ·exact(h.cF b q).2.resolve_right (by omega)
  ·have:=(h.cR i x t b (by subst q;exact .inl rfl)).2;omega
end
end
section
open Go.MapKept Go.Sort
abbrev Qr:=Sl×List Int
def xt:eZ Qr:=⟨1,λx=>[x.1.v],λ_=>rfl,λx u hu=>by simp at hu;subst hu;rfl⟩
theorem vq:∀args w,(callFunc wU.no args).run QH w=.ok (.enter wU.no args) w:=enters_of abm (by kernel_rfl) rfl
theorem AE {a b:Sl}{c lb:List Int}{H:aa}(e:Ints .u64 H a c)(f:Ints .u64 H b lb)(hl:c.length<=16):
  Spec QH wU.no #[a.v,b.v] H λv H'=>v=.int .i64 (aX c lb)/\Mod (λ_=>False) H H':=by
 have:=gU (H:=H) (K:=λr H'=>r=aX c lb/\Mod (λ_=>False) H H') e f (by omega) ⟨rfl,.refl _ _⟩;refine Spec.mono this λv H' ⟨x,g,h,i⟩=>?_;subst g;exact⟨by rw[h],i⟩
theorem Ax {α:Type}{P:α->Prop}:∀{l:List α},(∀x∈l,P x)->∃m:List {x // P x},m.map (·.1)=l
 |[],_=>⟨[],rfl⟩
 |a::l,h=>by
   obtain⟨m,hm⟩:=Ax (l:=l) λx b=>h x (Q8 _ b);exact⟨⟨a,h a Q9⟩::m,by rw[Q7,hm]⟩
section
variable {H:aa}{s:Sl}{qs:List Qr}
structure mc (H:aa)(s:Sl)(qs:List Qr):Prop where
 out:aF xt dv H s qs
 own:∀q∈qs,aO H 0 fM 1 q.1 (q.2.map (QT .u64))
 iY:∀q∈qs,q.2.length<=16
theorem mc.off (h:mc H s qs){q:Qr}(a:aO H 0 fM 1 q.1 (q.2.map (QT .u64))):∀b,ai q.1 b->¬ai s b:=λb c=>a.apart h.out (by decide) b c
theorem pU (qs:List Qr):xt.all qs=qs.map λq=>q.1.v:=by
 induction qs with
 |nil=>rfl
 |cons q qs a=>
   have:xt.all (q::qs)=q.1.v::xt.all qs:=rfl;rw[this,a];rfl
theorem xv:∀{rs:List Sl} {ls:List (List Int)},rs.length=ls.length->(rs.zip ls).map (·.1)=rs/\(rs.zip ls).map (·.2)=ls
 |[],[],_=>⟨rfl,rfl⟩
 |[],_::_,h=>by simp at h
 |_::_,[],h=>by simp at h
 |a::rs,b::ls,h=>by
   obtain⟨h1,c⟩:=xv (rs:=rs) (ls:=ls) (by simpa using h);simp only[List.zip_cons_cons,Q7,h1,c];exact⟨trivial,trivial⟩
theorem aJ.qr {rs:List Sl}{ls:List (List Int)}(h:aJ H 0 s rs ls)(f:∀l∈ls,l.length<=16):mc H s (rs.zip ls):=by
 obtain⟨e,z2⟩:=xv h.len;refine⟨?_,λq c=>?_,λq c=>?_⟩
 ·unfold aF;rw[pU];have:((rs.zip ls).map λq=>q.1.v)=rs.map Sl.v:=by
   conv=>rhs;rw[<-e]
   rw[R8];rfl
  rw[this];exact h.out
 ·obtain⟨i,hi⟩:=QU.1 c;have a:rs[i]?=some q.1:=by rw[<-e,QV,hi];rfl
  have b:ls[i]?=some q.2:=by rw[<-z2,QV,hi];rfl
  exact h.row i _ _ a b
 ·exact f _ (by rw[<-z2];exact QW.2 ⟨q,c,rfl⟩)
theorem Aq {K:Unit->aa->Prop}(h:mc H s qs)(hl:qs.length<=1000000)
  (G:∀i H',i.Perm qs->i.map (·.2)=eN (qs.map (·.2))->mc H' s i->Mod (ai s) H H'->K () H'):Pj.sp s (.func (.func wU.no) #[] #[]) H K:=by
 let P:Qr->Prop:=λq=>aO H 0 fM 1 q.1 (q.2.map (QT .u64))/\q.2.length<=16
 obtain⟨I,j⟩:=Ax (P:=P) (l:=qs) λq k=>⟨h.own q k,h.iY q k⟩
 haveI:Inhabited {q // P q}:=⟨⟨(Sl.mk none 0 0,[]),aO.nil _ _ _ _,Q5 _⟩⟩
 let E:eZ {q // P q}:=⟨1,λa=>[a.1.1.v],λ_=>rfl,λx u hu=>by simp at hu;subst hu;rfl⟩
 have m:∀l:List {q // P q},E.all l=xt.all (l.map (·.1)):=by
  intro l
  induction l with
  |nil=>rfl
  |cons a l J=>
    have L:E.all (a::l)=a.1.1.v::E.all l:=rfl;have M:xt.all ((a::l).map (·.1))=a.1.1.v::xt.all (l.map (·.1)):=rfl;rw[L,M,J]
 have z:∀{A:aa} {l:List {q // P q}},aF E dv A s l↔aF xt dv A s (l.map (·.1)):=by
  intro A l;unfold aF;rw[m];exact V4
 let cf:{q // P q}->{q // P q}->Int:=λa b=>aX a.1.2 b.1.2
 have g:∀a b,ltOf cf a b=decide (aX a.1.2 b.1.2<0):=λa b=>rfl;have hO:SWO (ltOf cf):=by
  refine⟨λa=>by rw[g,gN];rfl,λa b c h1 B=>?_,λa b c h1 B=>?_⟩
  ·rw[g] at*;simp only[decide_eq_true_eq] at*;exact fF h1 B
  ·rw[g] at*;simp only[decide_eq_false_iff_not] at*;have s1:=bZ a.1.2 b.1.2;have s2:=bZ b.1.2 c.1.2;have Q:=bZ a.1.2 c.1.2;have:=jO (a:=c.1.2) (b:=b.1.2) (c:=a.1.2) (by omega) (by omega);omega
 have o:I.length<4611686018427387904:=by
  have:=congrArg VL j;rw[Rg] at this;omega
 have oX:∀a:{q // P q},∀b,ai a.1.1 b->¬ai s b:=λa=>h.off a.2.1;refine ve (ρ:=uG) (E:=E) (e:=λa=>a.1.1.v) NH (λ_=>rfl) rfl hO vq (by rw[z,j];exact h.out) o (λA t a b=>?_) λC A N O D t=>?_
 ·have i1:Ints .u64 A a.1.1 a.1.2:=(a.2.1.mod t (oX a)).ints;have i2:Ints .u64 A b.1.1 b.1.2:=(b.2.1.mod t (oX b)).ints;exact AE i1 i2 a.2.2
 ·rw[z] at D;have f:(C.map (·.1)).Perm qs:=by rw[<-j];exact N.map _
  refine G (C.map (·.1)) A f ?_ ⟨D,λq k=>?_,λq k=>h.iY q (f.mem_iff.1 k)⟩ t
  ·refine AR ((f.map _).trans (nD _).symm) ?_ (th _);rw[R8,Tg];refine O.imp λ{a b} q=>?_;rw[g] at q;simp only[decide_eq_false_iff_not] at q;have:=bZ a.1.2 b.1.2;show aX a.1.2 b.1.2<=0;omega
  ·exact(h.own q (f.mem_iff.1 k)).mod t (h.off (h.own q (f.mem_iff.1 k)))
def iq:List Qr->List Qr
 |[]=>[]
 |a::l=>a::FH (·.2) a l
theorem Eb (l:List Qr):(iq l).map (·.2)=cG (l.map (·.2)):=by
 cases l with
 |nil=>rfl
 |cons a l=>simp only[iq,cG,Q7];rw[xJ]
theorem wG {l:List Qr}{q:Qr}(h:q∈iq l):q∈l:=by
 cases l with
 |nil=>exact h
 |cons a l=>
   rcases QX.1 h with e|e
   ·rw[e];exact Q9
   ·exact Q8 _ (xP _ l a q e)
def vN:Qr->List Qr->Qr
 |a,[]=>a
 |_,c::l=>vN c l
theorem zZ (b:Qr):∀(l:List Qr) (a:Qr),FH (·.2) a (l++[b])=if b.2=(vN a l).2 then FH (·.2) a l else FH (·.2) a l++[b]
 |[],a=>by
   by_cases e:b.2=a.2<;>simp[FH,vN,e]
 |c::l,a=>by
   have f:=zZ b l c;rw[TU];simp only[FH,vN];rw[f];split<;>split<;>simp
theorem uJ:∀(l:List Qr) (a:Qr) (j:Nat),j<=l.length->(a::l)[j]?=some (vN a (l.take j))
 |l,a,0,_=>by simp[vN]
 |[],a,j+1,h=>by simp at h
 |c::l,a,j+1,h=>by
   rw[RV,Ue];exact uJ l c j (by simpa using h)
theorem uy {l:List Qr}{i:Nat}{p q:Qr}(k:0<i)(g:l[i]?=some q)(f:l[i - 1]?=some p):iq (l.take (i+1))=if q.2=p.2 then iq (l.take i) else iq (l.take i)++[q]:=by
 obtain⟨hi,b⟩:=QJ.1 g;cases l with
 |nil=>simp at hi
 |cons a l=>
   obtain⟨j,rfl⟩:∃j,i=j+1:=⟨i - 1,by omega⟩;have h:j<l.length:=by simpa using hi
   rw[Ue,Ue];simp only[iq];have c:l[j]=q:=b;rw[QO h,zZ,c];have e:=uJ l a j (by omega);rw[Nat.add_sub_cancel] at f;rw[f] at e;cases e;split<;>simp
theorem N4:(QH).underlying dY=some (.slice dv):=by obtain⟨inf,h,_⟩:=uS;exact h
theorem Na:∀w:World,(zeroValue dv).run QH w=.ok (.slice none 0 0) w:=by
 obtain⟨inf,_,h1,a,_⟩:=uS;intro w;simp[zeroValue,typeInfo,h1,a]
theorem Jw {H:aa}{s:Sl}{ps:List Qr}{lo:Nat}{ty:ic}{K:gp->aa->Prop}(h:aF xt dv H s ps)(u:lo<ps.length)
  (o:∀v H',aF xt dv H' (Sl.mk s.a lo s.c) (ps.take lo)->Mod (ai s) H H'->K v H'):
  bf gR QH (VY #[dY] ty #[.slice (cM s.a s.c lo 1) (s.n - lo) (s.c - lo)]) H K:=by
 intro w hw;subst hw;have z:=h.n (by decide);rcases h.2 with ⟨b,L⟩|⟨g,cap,cur,b,M,f,B,C,D,m⟩
 ·omega
 ·cases s with
  |mk N q i=>
  simp only[Sl.v,Q2] at b;obtain⟨rfl,_,rfl⟩:=b;simp only at z B m o ⊢;have a:xt.size=1:=rfl;rw[a,Rz] at D m;have E:cM (some ⟨g,0,none⟩) i lo 1=some ⟨g,lo,none⟩:=by
   unfold cM;rw[if_neg (by omega)];simp[bg]
  rw[E];have t:=Lib.run_clear_slice (P:=QH) w dY dv ty (.slice none 0 0) N4 Na rfl rfl g lo (q - lo) (i - lo) (by omega) (λj G=>by simp[World.cell?,f];omega) (λj G=>by simp[World.frozen?,f]);rw[qa (P:=QH) f (by simp;omega) (by intro v I;rw[List.eq_of_mem_replicate I];rfl)] at t;have c:∀k,ai (Sl.mk (some ⟨g,0,none⟩) q i) k↔k=g:=λk=>⟨λ⟨ad,h1,J⟩=>by cases h1;exact J.symm,λh=>⟨_,rfl,h.symm⟩⟩;refine⟨_,_,t,⟨_,rfl,o _ _ ?_ ⟨by simp[TK],λk _ hk=>setRow_other w g k _ (λe=>hk ((c k).2 e))⟩⟩,⟨rfl,QN _⟩⟩;refine⟨by rw[pU];simp[a];omega,.inr ⟨g,i,_,rfl,Q5 _,setRow_heap w g cur _ _ _ f,by simp only;omega,C,?_,?_⟩⟩
  ·simp only[a,Rz,Tf,Ri,Ro,Ti,RM,Td];omega
  ·simp only[a,Rz];rw[RD,List.take_append_of_le_length (by simp;omega),T0,Nat.min_self];have b:xt.all (ps.take lo)=(xt.all ps).take lo:=by rw[pU,pU,List.map_take]
   rw[b,<-m,T0,TL (by omega)]
theorem CE {a b:Sl}{c lb:List Int}{H:aa}{K:Bool->aa->Prop}(f:Ints .u64 H a c)(g:Ints .u64 H b lb)(hl:c.length<=16)(h:K (decide (c=lb)) H):Hf.sp a b H K:=by
 refine Hf.of ?_;unfold Hf.vc;refine gU f g (by omega) ?_;have:(aX c lb==0)=decide (c=lb):=by
  by_cases e:c=lb
  ·rw[decide_eq_true e,cr.2 e];rfl
  ·rw[decide_eq_false e];have:aX c lb≠0:=λq=>e (cr.1 q);simpa using this
 rw[this];exact h
theorem mc.get (h:mc H s qs){i:Nat}{q:Qr}(hi:qs[i]?=some q){K:Sl->Prop}(b:K q.1):ae s.a λa=>(0<=(i:Int)/\(i:Int)<(s.n:Int))/\sz aq H (a.add ((i:Int).toNat*1)) K:=
 bX.one (E:=xt) (c:=aq) h.out.rd (aF.n h.out (by decide)) rfl hi rfl b
theorem mc.ints (h:mc H s qs){q:Qr}(a:q∈qs):Ints .u64 H q.1 q.2:=(h.own q a).ints
theorem mc.qX (h:mc H s qs){k j:Nat}{q:Qr}(hi:qs[k+j]?=some q){K:Sl->Prop}(b:K q.1):ae (cM s.a s.c k 1) λa=>(0<=(j:Int)/\(j:Int)<((s.n - k:Nat):Int))/\sz aq H (a.add ((j:Int).toNat*1)) K:=by
 have f:=aF.n h.out (by decide);have g:=aO.cap h.out;have e:bX xt H (cM s.a s.c k xt.size) (qs.drop k):=h.out.rd.drop (by omega);exact bX.one (E:=xt) (c:=aq) (s:=⟨cM s.a s.c k 1,s.n - k,s.c - k⟩) e (by rw[RM];show s.n - k=_;omega) rfl (by rw[Si];exact hi) rfl b
set_option maxHeartbeats 1000000 in
theorem BE {K:Sl->aa->Prop}(h:mc H s qs)(hl:qs.length<=1000000)
  (hK:∀n H',n=(iq qs).length->mc H' ⟨s.a,n,s.c⟩ (iq qs)->Mod (ai s) H H'->K ⟨s.a,n,s.c⟩ H'):LC.sp s H K:=by
 refine LC.of ?_;unfold LC.vc;have hn:=aF.n h.out (by decide);have a1:=aO.cap h.out;have whole:iq qs=qs->K s H:=λe=>by
  have hs:s=⟨s.a,s.n,s.c⟩:=by cases s;rfl
  rw[hs];exact hK s.n H (by rw[e];exact hn) (by rw[e,<-hs];exact h) (.refl _ _)
 refine ah (λc=>?_) (λc=>?_)
 ·have:qs.length<2:=by
   have:(s.n:Int)<2:=by simpa using c
   omega
  refine whole ?_
  match qs,this with
  |[],_=>rfl
  |[a],_=>rfl
 have h2:2<=qs.length:=by
  have:¬(s.n:Int)<2:=by simpa using c
  omega
 refine av (qs.length - 1) (λk z A=>z=((k+1:Nat):Int)/\A=H/\iq (qs.take (k+1))=qs.take (k+1)) ⟨rfl,rfl,?_⟩ ?_
 ·match qs,h2 with
  |a::b::l,_=>rfl
 rintro k z A next hk ⟨rfl,rfl,U⟩ D
 refine ah (λc=>?_) (λc=>?_)
 ·have E:k+1<qs.length:=by
   have:((k+1:Nat):Int)<(s.n:Int):=by simpa using c
   omega
  obtain⟨q,N⟩:∃q,qs[k+1]?=some q:=⟨_,QK E⟩;obtain⟨p,X⟩:∃p,qs[k]?=some p:=⟨_,QK (by omega)⟩;have step:=uy (l:=qs) (i:=k+1) (YR _) N X;have ek:QI.wrap (((k+1:Nat):Int) - 1)=(k:Int):=by rw[wrap64 (by omega) (by omega)];omega
  refine h.get N ?_;rw[ek];refine h.get X ?_;refine CE (h.ints (QL N)) (h.ints (QL X)) (h.iY q (QL N)) ?_;refine ah (λc=>?_) (λc=>?_)
  ·have he:q.2=p.2:=of_decide_eq_true c;rw[if_pos he] at step;refine⟨⟨by omega,by omega⟩,?_⟩;simp only[QP,Wb,CK]
   -- from here on rows are moved
   refine⟨Nat,λj z B=>z.2=(j:Int)/\1<=j/\k+1+j<=qs.length/\∃(w:Nat) (M:List Qr),z.1=(w:Int)/\w<=k+j/\M.length=qs.length/\M.take w=iq (qs.take (k+1+j))/\(∀i,k+j<=i->M[i]?=qs[i]?)/\mc B s M/\Mod (ai s) A B,λj=>qs.length - j,
    ⟨1,rfl,QN _,by omega,k+1,qs,rfl,by omega,rfl,by rw[step];exact U.symm,λ_ _=>rfl,h,.refl _ _⟩,?_⟩
   rintro j ⟨w0,j0⟩ B ⟨hj,j1,j2,w,M,hw,a6,ml,mt,V,g,Y⟩;simp only at hj hw;subst hj;subst hw;simp only;refine ah (λc=>?_) (λc=>?_)
   ·have O:k+1+j<qs.length:=by
     have:(j:Int)<((s.n - (k+1):Nat):Int):=by simpa using c
     omega
    obtain⟨o,P⟩:∃q,qs[k+1+j]?=some q:=⟨_,QK O⟩;obtain⟨p2,Q⟩:∃p,qs[k+1+j - 1]?=some p:=⟨_,QK (by omega)⟩;have lI:=uy (l:=qs) (i:=k+1+j) (by omega) P Q;have G:M[k+1+j]?=some o:=by rw[V _ (by omega)];exact P
    have R:M[k+1+(j - 1)]?=some p2:=by
     rw[V _ (by omega),show k+1+(j - 1)=k+1+j - 1 by omega];exact Q
    have Z:=QL G;have mp:=QL R;have ej:QI.wrap ((j:Int) - 1)=((j - 1:Nat):Int):=by rw[wrap64 (by omega) (by omega)];omega
    refine g.qX G ?_;rw[ej];refine g.qX R ?_;rw[aD j (by omega)];refine CE (g.ints Z) (g.ints mp) (g.iY o Z) ?_;have e2:k+1+j+1=k+1+(j+1):=by omega
    refine ah (λc=>?_) (λc=>?_)
    ·have af:¬o.2=p2.2:=by simpa using c
     rw[if_neg af] at lI;refine g.qX G ?_;have hw:w<M.length:=by omega
     rw[aD w (by omega)];refine aO.st (i:=(w:Int)) (xs:=xt.all M) (v:=o.1.v) g.out (by omega) (by omega) rfl λC I S zC=>?_;have al:aF xt dv C s (M.set w o):=by
      unfold aF;rw[pU] at I ⊢;rw[QP,<-R9 (f:=λq:Qr=>q.1.v)] at I;exact I
     have J:∀x∈M,aO C 0 fM 1 x.1 (x.2.map (QT .u64)):=λx m=>(g.own x m).mod S (g.off (g.own x m));have t:∀x∈M.set w o,x∈M:=λx m=>by
      rcases SH m with u|u
      ·exact u
      ·subst u;exact Z
     refine⟨j+1,⟨rfl,by omega,by omega,w+1,M.set w o,rfl,by omega,by simp;exact ml,?_,λi hi=>?_,⟨al,λx m=>J x (t x m),λx m=>g.iY x (t x m)⟩,Y.trans S⟩,by omega⟩
     ·rw[<-e2,lI,<-mt,QO (by simpa using hw),Vo (QN _)];simp
     ·rw[RO (by omega)];exact V i (by omega)
    ·have heq:o.2=p2.2:=by simpa using c
     rw[if_pos heq] at lI;exact⟨j+1,⟨rfl,by omega,by omega,w,M,rfl,by omega,ml,by rw[<-e2,lI];exact mt,λi hi=>V i (by omega),g,Y⟩,by omega⟩
   ·have L:k+1+j=qs.length:=by
     have:¬(j:Int)<((s.n - (k+1):Nat):Int):=by simpa using c
     omega
    rw[L,Ut] at mt;refine⟨⟨by omega,by omega⟩,?_⟩;have an:w=(iq qs).length:=by rw[<-mt,Ro];omega
    refine Jw g.out (by omega) λv C I S=>⟨⟨by omega,by omega⟩,?_⟩;rw[QP] at I ⊢;rw[mt] at I;refine hK w C an ⟨I,λx m=>?_,λx m=>h.iY x (wG m)⟩ (Y.trans S);have T:x∈M:=RU (by rw[mt];exact m);exact(g.own x T).mod S (g.off (g.own x T))
  ·have he:¬q.2=p.2:=of_decide_eq_false c;rw[if_neg he,U] at step;rw[aD (k+1) (by omega)];refine D (by omega) _ A ⟨rfl,rfl,?_⟩;rw[step,QO E];congr 2;rw[QK E] at N;exact(Rc N).symm
 ·have L:k+1=qs.length:=by
   have:¬((k+1:Nat):Int)<(s.n:Int):=by simpa using c
   omega
  rw[L,Ut] at U;exact whole U
end
end
section
open Go.MapKept
theorem GR {names:Sl}{ns:List ByteArray}{W:Int}{H:aa}{F:Nat->Prop}{p dp:Nat}{s:Pl}{x y:Nat}{K:(Sl×Int)->aa->Prop}(Z:Gl H)(V:aA F H p dp s)(hn:names.n=ns.length)(N:∀A,Mod F H A->bX kz A names.a ns)(v:∀n∈ns,n.size<=9223372036854775807)(b:Bd s x y)(hl:ns.length<=1000000)(e:x<900000000000)(hy:y<60000000000)
  (D:(bc W ns s).2.2≠0->∀F' A,aA F' A p dp (bc W ns s).1->Step F F' H A->K (aY,(bc W ns s).2.2) A)
  (O:(bc W ns s).2.2=0->∀F' A col xs l,eS H F col p dp F' A (bc W ns s).1 xs l->xs.map (·.r)=(bc W ns s).2.1->xs.length=ns.length->K (l,0) A):Lw.sp (aK p) names W H K:=by
 refine Lw.of ?_;unfold Lw.vc;have P:=V.fi;refine av ns.length (λi z A=>z.2=(i:Int)/\∃F' s' col xs,eS H F col p dp F' A s' xs z.1/\xs.length=i/\Bd s' (x+i) (y+i)/\
  bc W ns s=((bc W (ns.drop i) s').1,xs.map (·.r)++(bc W (ns.drop i) s').2.1,(bc W (ns.drop i) s').2.2)) ?_ ?_
 ·refine⟨rfl,F,s,λ_=>0,[],⟨V,λi x e=>by simp at e,λx e=>(by cases e),aF.nil _ _ _,λb f=>⟨rfl,.inl f⟩,λi x e=>by simp at e,λb f=>absurd f (aU b),.refl _ _⟩,rfl,b,?_⟩;simp
 rintro i ⟨l,j⟩ A next hi ⟨J,F',s',col,xs,h,G,L,he⟩ m
 simp only at J;subst J;simp only;refine ah (λQ=>?_) (λQ=>?_)
 ·have g:i<ns.length:=by
   have:(i:Int)<(names.n:Int):=by simpa using Q
   omega
  rw[Rw g] at he;have R:ns[i]?=some ns[i]:=QK g;refine bX.one (E:=kz) (c:=aN) (N A h.mod) hn rfl R rfl ?_;have S:=h.gl Z P;have q1:=L.lo;have q2:=L.hi;have q3:=L.aH;have T:=L.open (n:=ns[i]) (W:=W) (by omega);simp only[bc] at he;refine pP S h.aj (v _ (Re g)) (by omega) (by omega) q1 (λM B p1 I o=>?_) (λM B k r p1 I o X Y k2=>?_)
  ·have t:=qh.1 o;rw[o] at he;simp only[Tl] at he;refine aR (by simpa using t) ?_;rw[he] at D;exact D t M B p1 (h.step.trans I)
  ·have t:(rnOpen s' ns[i] W).2.2=0:=qh.2 (by rw[o];simp);rw[o] at he;simp only at he;rw[t];refine aE rfl ?_;obtain⟨ok,rb,_⟩:=jU o;have z1:=I.mod.size;obtain⟨col',c1,c2⟩:=iI col A.size M (λb=>b=k) (λb=>B.size<=b) 0 (5+i) 4 (λb q r=>k2 (r▸q)) (λb q r=>by have:=p1.lt b q;omega) (λb q r=>by have:=X.lt b (.inl q);omega);have h1:=h.tP (col':=col') p1 I.mod (λb f q=>by rw[(h.cF b q).1];decide) (λb f q=>(h.cF b q).2.resolve_right (by omega)) (λb q=>by
    rcases I.own b q with u|u
    ·rw[c1 b (h.aj.lt b u)];exact h.cF b u
    ·exact⟨(c2 b u).1 q,.inr (by have:=h.mod.size;omega)⟩) λb f _=>c1 b f
   refine aF.push (E:=dW) (x:=k) OM h1.list rfl (by simp;omega) (by simp;omega) λl' C o3 g3 _=>?_;rw[aD i (by omega)];have off:∀b,ai l b->col' b=4:=λb f=>(h1.cL b f).1;have kr:AM C k p r aY []:=X.mod g3.1 λb f q=>by
    have hk:b=k:=by
     rcases f with u|u|⟨z,u,_⟩
     ·exact u
     ·exact absurd u (aU b)
     ·cases u
    have a:=h1.list.lt b q;have b4:=off b q;subst hk;have:=(c2 b Y).2.1 rfl;omega
   have hz:=h1.mod.size;refine m g (l',((i+1:Nat):Int)) C ⟨rfl,M,(rnOpen s' ns[i] W).1,col',xs++[⟨k,r,aY,[]⟩],⟨?_,λj x e=>?_,λx e=>?_,?_,λb f=>h1.cF b f,λj x e b f=>?_,λb f=>?_,?_⟩,?_,?_,?_⟩
   ·exact h1.aj.ar λb f g=>g3.1.same b g λq=>by have:=(h1.cF b f).1;have:=off b q;omega
   ·rw[TJ] at e;split at e
    ·exact(h1.rds j x e).mod g3.1 λb f q=>by have:=(h1.cR j x e b f).1;have:=off b q;omega
    ·rename_i q;have:j - xs.length=0:=by have:=(QJ.1 e).1;simp at this;omega
     rw[this] at e;simp at e;subst e;exact kr
   ·rcases QQ.1 e with q|q
    ·exact h1.oks x q
    ·rw[Q1] at q;subst q;exact⟨ok,by show r.b.name.size<=_;rw[rb];exact v _ (Re g)⟩
   ·rw[Rm];exact o3
   ·rw[TJ] at e;split at e
    ·exact h1.cR j x e b f
    ·rename_i q;have J:j - xs.length=0:=by have:=(QJ.1 e).1;simp at this;omega
     rw[J] at e;simp at e;subst e;have hk:b=k:=by
      rcases f with u|u|⟨z,u,_⟩
      ·exact u
      ·exact absurd u (aU b)
      ·cases u
     subst hk;have:=(c2 b Y).2.1 rfl;refine⟨by omega,by have:=h.mod.size;omega⟩
   ·rcases g3.2 b f with q|q
    ·exact h1.cL b q
    ·exact⟨(c2 b (by omega)).2.2 q,by omega⟩
   ·exact h1.mod.trans' g3.1 λb f q=>by have:=(h1.cL b q).2;omega
   ·simp;exact G
   ·exact T.mono (by omega) (by omega)
   ·rw[he,Rm];simp
 ·have U:i=ns.length:=by
   have:¬(i:Int)<(names.n:Int):=by simpa using Q
   omega
  subst U;rw[TV] at he;simp only[bc,Tl] at he;have t:(bc W ns s).2.2=0:=by rw[he]
  refine O t F' A col xs l (by rw[he];exact h) (by rw[he]) G
structure cJ (L:List Hx)(hs:List (Option (List Int))):Prop where
 nodup:(L.map (·.no)).Nodup
 mem:∀(i:Nat) (y:List Int),hs[i]?=some (some y)↔∃x∈L,x.no=i/\x.row=y
structure sU (H0:aa)(F0:Nat->Prop)(col:Nat->Nat)(p dp:Nat)(F:Nat->Prop)(A:aa)(s:Pl)(xs:List oh)(l:Sl)(kw:Nat)(w:RW)(sw sl:Sl)(kh:Nat)(hs:Sl)(L:List Hx):Prop where
 rds:eS H0 F0 col p dp F A s xs l
 wr:qw A kw p w sw sl
 heap:oW A kh hs L
 cW:∀b,dH kw sw sl b->col b=2/\(F0 b\/H0.size<=b)
 cH:∀b,(b=kh\/ai hs b)->col b=1/\H0.size<=b
 cX:∀x∈L,∀b,ai x.sl b->col b=3
 ptr:∀x∈L,∃y,xs[x.no]?=some y/\x.ptr=aK y.k
 ord:Hp ahead L
section
variable {H0 A:aa}{F0 F:Nat->Prop}{col:Nat->Nat}{p dp:Nat}{s:Pl}{xs:List oh}{l:Sl}{kw:Nat}{w:RW}{sw sl:Sl}{kh:Nat}{hs:Sl}{L:List Hx}
theorem oW.lt (h:oW A kh hs L):∀b,(b=kh\/ai hs b)->b<A.size:=by
 rintro b (q|q)
 ·subst q;exact aI h.row
 ·exact h.els.lt b q
theorem sU.GN {G:Nat->Prop}{B:aa}(h:sU H0 F0 col p dp F A s xs l kw w sw sl kh hs L)(m:Mod G A B)(c:∀b,b<A.size->G b->col b≠2):qw B kw p w sw sl:=
 h.wr.mod m λb a q=>c b (h.wr.lt b a) q (h.cW b a).1
theorem sU.G5 {G:Nat->Prop}{B:aa}(h:sU H0 F0 col p dp F A s xs l kw w sw sl kh hs L)(m:Mod G A B)(c:∀b,b<A.size->G b->col b≠1/\col b≠3):oW B kh hs L:=
 h.heap.mod m (λq=>(c kh (aI h.heap.row) q).1 (h.cH kh (.inl rfl)).1) (λb a q=>(c b (h.heap.els.lt b a) q).1 (h.cH b (.inr a)).1) λx e b a q=>(c b ((h.heap.own x e).lt b a) q).2 (h.cX x e b a)
theorem sU.ext {B:aa}(h:sU H0 F0 col p dp F A s xs l kw w sw sl kh hs L)(e:Ext A B):sU H0 F0 col p dp F B s xs l kw w sw sl kh hs L:=
 ⟨h.rds.ext e,h.GN e λ_ _ q=>q.elim,h.G5 e λ_ _ q=>q.elim,h.cW,h.cH,h.cX,h.ptr,h.ord⟩
theorem sU.GG {B:aa}{hs':Sl}{f:List Hx}(h:sU H0 F0 col p dp F A s xs l kw w sw sl kh hs L)(g:oW B kh hs' f)(i:Hp ahead f)(m:Mod (λb=>b=kh\/ai hs b) A B)(j:∀b,ai hs' b->ai hs b\/A.size<=b)
  (k:∀x∈f,∀b,ai x.sl b->b<A.size/\col b=3) (o:∀x∈f,∃y,xs[x.no]?=some y/\x.ptr=aK y.k):∃col',(∀b,b<A.size->col' b=col b)/\sU H0 F0 col' p dp F B s xs l kw w sw sl kh hs' f:=by
 obtain⟨col',c1,c2⟩:=iI col A.size (λ_=>False) (λ_=>False) (λ_=>True) 1 1 1 (λ_ q=>q.elim) (λ_ q=>q.elim) λ_ q=>q.elim;have z:=h.rds.mod.size;refine⟨col',c1,h.rds.tP (h.rds.aj.ar λb e hl=>m.same b hl λq=>?_) m (λb e q=>by rw[(h.cH b q).1];decide) (λb e q=>by have:=(h.cH b q).2;omega) (λb q=>by rw[c1 b (h.rds.aj.lt b q)];exact h.rds.cF b q) (λb e _=>c1 b e),
  h.GN m λb e q=>by rw[(h.cH b q).1];decide,g,λb e=>?_,λb e=>?_,λx t b e=>?_,o,i⟩
 ·have a:=(h.rds.cF b e).1;have c:=(h.cH b q).1;omega
 ·rw[c1 b (h.wr.lt b e)];exact h.cW b e
 ·rcases e with q|q
  ·rw[c1 b (h.heap.lt b (.inl q))];exact h.cH b (.inl q)
  ·rcases j b q with u|u
   ·rw[c1 b (h.heap.els.lt b u)];exact h.cH b (.inr u)
   ·exact⟨(c2 b u).2.2 trivial,by omega⟩
 ·obtain⟨v,C⟩:=k x t b e;rw[c1 b v];exact C
theorem yU {K:Int->aa->Prop}{i:Nat}{y:oh}{G:Sl}{u v:Nat}(h:sU H0 F0 col p dp F A s xs l kw w sw sl kh hs L)(Z:Gl H0)(h0:¬F0 bt)(D:xs[i]?=some y)(b:Bd s u v)(hu:u<1000000000000)(hv:v<68719470000)(hl:L.length<=1000000)
  (R:∀F' B col' y' hs' m,sU H0 F0 col' p dp F' B (y.r.next s).1 (xs.set i y') l kw w sw sl kh hs' m->y'.r=(y.r.next s).2.1->
   ((y.r.next s).2.2.2.1=true->∃row ptr,m.Perm (L++[⟨i,row,ptr,(y.r.next s).2.2.1⟩]))->((y.r.next s).2.2.2.1=false->m=L)->(∀b,b<A.size->col' b=col b)->A.size<=B.size->(∀b,b<A.size->col b=3->B[b]?=A[b]?)->K (y.r.next s).2.2.2.2 B):IT.sp (aK kh) (i:Int) G (aK y.k) A K:=by
 refine IT.of ?_;unfold IT.vc;refine au λA1 z1 S T=>?_;have h1:=h.ext T;refine ao.ld (c:=aB) (i:=2) (x:=aK y.k) S rfl ?_;have j:=RR.fC (h1.rds.oks y (QL D)).1 s;refine h1.rds.next Z h0 D b hu hv λF' B col' y' row q1 U V X q4 E I=>?_;have o:∀b,F b\/b=y.k->col b=0\/col b=5+i:=λb q=>by
  rcases q with q|q
  ·exact .inl (h1.rds.cF b q).1
  ·exact .inr (h1.rds.cR i y D b (by subst q;exact .inl rfl)).1
 have hi:=(QJ.1 D).1;have z:=I.size;have t:sU H0 F0 col' p dp F' B (y.r.next s).1 (xs.set i y') l kw w sw sl kh hs L:=by
  refine⟨q1,h1.GN I λb _ q=>by have:=o b q;omega,h1.G5 I λb _ q=>by have:=o b q;omega,λb f=>?_,λb f=>?_,λx k b f=>?_,λx k=>?_,h.ord⟩
  ·rw[E b (h1.wr.lt b f)];exact h.cW b f
  ·rw[E b (h1.heap.lt b f)];exact h.cH b f
  ·rw[E b ((h1.heap.own x k).lt b f)];exact h.cX x k b f
  ·obtain⟨a,N,a2⟩:=h.ptr x k;by_cases e:x.no=i
   ·rw[e] at N ⊢;rw[D] at N;cases N;exact⟨y',RT hi,by rw[U];exact a2⟩
   ·exact⟨a,by rw[RO (Sg e)];exact N,a2⟩
 have xC:∀b,b<A.size->col b=3->B[b]?=A[b]?:=λb f Y=>(I.same b (by omega) λq=>by have:=o b q;omega).trans (T.same b f id);generalize (y.r.next s).2.2.2.2=e at*;by_cases g:(y.r.next s).2.2.2.1=true
 ·obtain⟨_,_,he,hlen⟩:=j.2.2.2.1 g;subst he;refine aR (by rw[g];rfl) ?_;have r2:ao B A.size kC #[.int .i64 (i:Int),G.v,.pointer (aK y.k)]:=S.mod I λq=>by
   have af:A.size<A1.size:=by omega
   rcases q with q|q
   ·have:=h.rds.aj.lt _ q;omega
   ·have:=h.rds.lt D y.k (.inl rfl);omega
  refine ao.ld (c:=ab .i64) (i:=0) (x:=(i:Int)) r2 rfl ?_;refine ao.ld (c:=aB) (i:=2) (x:=aK y.k) r2 rfl ?_;refine HY (x:=⟨i,row,aK y.k,(y.r.next s).2.2.1⟩) t.heap h.ord X hlen hl λhs' m C hC hO O P oC=>?_;have hX:∀x∈m,∀b,ai x.sl b->b<B.size/\col' b=3:=λx k b f=>by
   rcases QQ.1 (O.mem_iff.1 k) with q|q
   ·exact⟨(t.heap.own x q).lt b f,t.cX x q b f⟩
   ·rw[Q1] at q;subst q;exact⟨X.lt b f,(q4 b f).2⟩
  have Q:∀x∈m,∃a,(xs.set i y')[x.no]?=some a/\x.ptr=aK a.k:=λx k=>by
   rcases QQ.1 (O.mem_iff.1 k) with q|q
   ·exact t.ptr x q
   ·rw[Q1] at q;subst q;exact⟨y',RT hi,by rw[U]⟩
  obtain⟨J,c1,h3⟩:=t.GG hC hO P oC hX Q;refine R F' C J y' hs' m h3 V (λ_=>⟨row,aK y.k,O⟩) (λq=>by rw[g] at q;cases q) (λb f=>(c1 b (by omega)).trans (E b (by omega))) (by have:=P.size;omega) λb f Y=>?_;refine(P.same b (by omega) λq=>?_).trans (xC b f Y);have:=(t.cH b q).1;rw[E b (by omega)] at this;omega
 ·have M:(y.r.next s).2.2.2.1=false:=by simpa using g
  refine aE (by rw[M];simp) ?_;exact R F' B col' y' hs L t V (λq=>absurd q g) (λ_=>rfl) (λb f=>E b (by omega)) (by omega) xC
end
end
theorem vf {α:Type}{E:eZ α}{z:gp}{x0:α}(b:z.cells.toList=E.enc x0)(n:Nat):(Xd z.cells n).toList=E.all (Q6 n x0):=by
 have hs:z.cells.size=E.size:=by rw[<-E.len x0,<-b];simp
 apply Sy;intro m;by_cases hm:m<n*E.size
 ·have c:0<E.size:=by
   rcases Nat.eq_zero_or_pos E.size with h|h
   ·rw[h] at hm;omega
   ·exact h
  have e:m=m/E.size*E.size+m%E.size:=(Nat.div_add_mod' m E.size).symm;have hd:m/E.size<n:=Nat.div_lt_of_lt_mul (by rw[Nat.mul_comm];exact hm);have a:=Nat.mod_lt m c
  conv=>rhs;rw[e]
  rw[E.xp _ _ _ a,Vr,if_pos hd];simp only[WL,<-b,Xd,hs,Array.toList_map,QV,Array.toList_range,Array.getElem?_toList];rw[List.getElem?_range hm,Array.getElem?_eq_getElem (by omega)];simp[hs,a]
 ·rw[Th (by simp[Xd,hs];omega),Th (by rw[E.cj];simp;omega)]
theorem aF.Jq {P:Program}{α:Type}{E:eZ α}{t M ty e:ic}{bytes:Nat}{kn k:IntKind}{H:aa}{s:Sl}{l:List α}{x0:α}{n:Nat}{K:Sl->aa->Prop}(he:tc P t e E.size bytes)(q:P.underlying M=some (.int kn))
  (Y:∀inf z,P.info? e=some inf->inf.zero=some z->z.cells.toList=E.enc x0) (h:aF E e H s l) (N:bytes<=128) (hl:l.length+n<=1073741824)
  (Z:∀(s':Sl) (H':aa),aF E e H' s' (l++Q6 n x0)->Grown s s' H H'->K s' H'):bf aq P (QM #[t,M] ty #[s.v,.int k (n:Int)]) H K:=by
 obtain⟨inf,z,X,hi,hz,af,hs,J,h0⟩:=he;have al:=aF.n h h0;have an:=Y inf z hi hz;have hw:QI.wrap (n:Int)=n:=by rw[Yy];omega
 have G:=vf an n;have v:QI.wrap 0=0:=by decide
 have i:=h.1;intro w v;subst v;obtain⟨sa,c,m⟩:=s;simp only[Sl.v] at*;have a1:¬((281474976710656:Int)<(n:Int)*(bytes:Int)):=by
  have:n*bytes<=1073741824*128:=Yr (by omega) N;have:((n*bytes:Nat):Int)<=137438953472:=by omega
  rw[Int.natCast_mul] at this;omega
 by_cases f:c+n<=m
 ·rcases id h.2 with ⟨B,e2⟩|⟨g,cap,cur,B,C,hg,h4,h5,h6,h7⟩
  ·simp only[Sl.v,Q2] at B;obtain⟨rfl,rfl,rfl⟩:=B;have o:n=0:=by omega
   subst o;have O:(QM #[t,M] ty #[.slice none 0 0,.int k 0]).run P w=.ok (.slice none 0 0) w:=by
    simp[QM,run_underlying X,run_underlying q,sizeOf,typeInfo,hi,asInt,asIntOf,v]
   refine⟨_,w,O,⟨⟨none,0,0⟩,rfl,Z _ _ (by simpa using h) ⟨.refl _ _,λb C=>.inl C⟩⟩,.refl w⟩
  ·simp only[Sl.v,Q2] at B;obtain⟨rfl,_,rfl⟩:=B;simp only at h4 h5 h6 h7;have I:c*inf.size+(E.all (Q6 n x0)).length<=cur.size:=by
    rw[E.cj,Ti,h6,hs,<-T8];exact Rq _ f
   have Q:=run_storeCells_at P g (c*inf.size) e (E.all (Q6 n x0)) 0 cur w hg (by simpa using I) (E.Dw _);simp only[Ux] at Q;have a6:inf.size≠0:=by omega
   have O:(QM #[t,M] ty #[.slice (some ⟨g,0,none⟩) c m,.int k (n:Int)]).run P w=.ok (.slice (some ⟨g,0,none⟩) (c+n) m) (w.setRow g (cur.toList.take (c*inf.size)++E.all (Q6 n x0)++cur.toList.drop (c*inf.size+(E.all (Q6 n x0)).length)).toArray):=by
    by_cases o:n=0
    ·subst o;have:E.all (Q6 0 x0)=[]:=rfl;rw[this];have e0:(cur.toList.take (c*inf.size)++[]++cur.toList.drop (c*inf.size+([]:List gp).length)).toArray=cur:=by simp
     have hle:c<=m:=by omega
     rw[e0,setRow_self w g cur e (0,0) hg];simp[QM,run_underlying X,run_underlying q,sizeOf,typeInfo,hi,asInt,asIntOf,v,hle,storeCells]
    ·have R:¬((n:Int)<0):=by omega
     have a7:¬(n*inf.size=0):=Nat.mul_ne_zero o a6;simp[QM,run_underlying X,run_underlying q,sizeOf,typeInfo,hi,asInt,asIntOf,hw,J,a1,R,a7,f,zeroValue,hz,G,Q,Addr.add_lit]
   refine⟨_,_,O,⟨⟨some ⟨g,0,none⟩,c+n,m⟩,rfl,Z _ _ ⟨?_,.inr ⟨g,m,_,rfl,C,setRow_heap w g cur _ e _ hg,f,h5,?_,?_⟩⟩ ⟨⟨by simp[TK],λb _ C=>setRow_other w g b _ (λS=>C ⟨_,rfl,S.symm⟩)⟩,λb C=>.inl ?_⟩⟩,(.of_le rfl (QN _))⟩
   ·rw[E.all_append,Ri,i,E.cj,Ti];simp only[T8]
   ·simp only[Tf,Ri,Ro,RM,Td];omega
   ·rw[E.all_append,hs,h7,T8];rw[hs] at I;have e5:c*E.size+n*E.size=(E.all l++E.all (Q6 n x0)).length:=by
     rw[Ri,i,E.cj (Q6 n x0),Ti]
    rw[e5];exact V2
   ·obtain⟨T,S,e4⟩:=C;exact⟨T,S,e4⟩
 ·have o:0<n:=by
   have:=h.cap;simp only at this;omega
  have D:(WQ inf.size c (.slice sa c m)).run P w.drew=.ok (E.all l).toArray w.drew:=by
   have U:=h.reads;cases sa with
   |none=>
     have:E.all l=[]:=by
      cases hq:E.all l with
      |nil=>rfl
      |cons a r=>
        obtain⟨ad,B,_⟩:=U 0 a (by rw[hq];rfl);cases B
     rw[this];simp[WQ]
   |some a=>
     exact run_firstCells_some (P:=P) w.drew inf.size c a c m (E.all l) (by rw[i,hs]) λj u hu=>by
      obtain⟨ad,B,hc⟩:=U j u hu;cases B;exact hc
  have a8:(c+n)*bytes<=140737488355328:=by
   have:(c+n)*bytes<=1073741824*128:=Yr (by omega) N;omega
  have O:=Go.Lib.run_append_grow_zeros (P:=P) w t M ty e inf z k kn X q hi hz sa c m (E.all l) D n o (by omega) (by omega) (by omega) (by rw[J];have:n*bytes<=(c+n)*bytes:=Rq _ (by omega);omega) (by
   have:=growslice_fits (need:=c+n) (old:=m) (bytes:=inf.bytes) (by omega) (by rw[J];exact a8);exact this)
  have bb:=grownCap_ge w (c+n) m e;have V:grownCap w (c+n) m e<=maxLen:=grownCap_le_maxLen w (c+n) m e (by unfold maxLen;omega);have hlen:(E.all (l++Q6 n x0)).length=(c+n)*E.size:=by
   rw[E.cj];simp[al]
  refine⟨_,_,O,⟨⟨some ⟨w.heap.size,0,none⟩,c+n,grownCap w (c+n) m e⟩,rfl,Z _ _ ?_ ⟨Mod.push _ _ _,λb C=>.inr ?_⟩⟩,(.of_le rfl (RB _))⟩
  ·refine aO.fresh (Q5 _) bb V ?_ hlen ?_
   ·simp only[Array.size_append,Tf,size_zeroCells,af,i,<-T8];rw[hs,<-T8,<-T8];congr 1;omega
   ·simp only[Array.toList_append,G,RD];rw[<-RD,<-E.all_append,<-hlen];exact V2
  ·obtain⟨T,S,e4⟩:=C;cases S;have:w.heap.size=b:=e4;omega
theorem vr {cur:Array gp}{o:Nat}{cs:List gp}{n:Nat}(h:o+cs.length<=n)(b:n<=cur.size):
  ((cur.toList.take o++cs++cur.toList.drop (o+cs.length)).toArray).toList.take n=(cur.toList.take n).take o++cs++(cur.toList.take n).drop (o+cs.length):=by
 have h1:(cur.toList.take o).length=o:=by rw[Ro];simp;omega
 have a:(cur.toList.take o++cs).length=o+cs.length:=by rw[Ri,h1]
 have e:(cur.toList.take n).take o=cur.toList.take o:=by rw[T0,TL (by omega)]
 rw[List.take_append,a,QS (by omega),e,List.drop_take]
theorem aO.Mr {P:Program}{m q ty e:ic}{H:aa}{base o dl t:Nat}{s x:Sl}{xs cs:List gp}{a:Option hY}{K:Int->aa->Prop}(hu:P.underlying m=some (.slice e))(hs:(P.info? e).map (·.size)=some 1)
  (h:aO H base e 1 s xs) (E:cs≠[]->a=s.a.map (·.add o)) (G:Reads H x.a cs) (I:cs.length=Nat.min x.n dl) (b:o+cs.length<=s.n) (h1:∀v∈cs,v.oneCell'=true)
  (J:∀H',aO H' base e 1 s (xs.take o++cs++xs.drop (o+cs.length))->Mod (ai s) H H'->H'.size=H.size->K (cs.length:Int) H'):
  bf (ab .i64) P (Wf #[m,q] ty #[.slice a dl t,x.v]) H K:=by
 intro w hw;subst hw;obtain⟨R,M,N⟩:=x;simp only[Sl.v] at*;by_cases u:cs=[]
 ·subst u;have z:=run_copy_none (P:=P) w m q ty e a R dl t M N hu hs I.symm;refine⟨_,w,z,⟨0,rfl,?_⟩,.refl w⟩;refine J w.heap ?_ (.refl _ _) rfl;simpa using h
 ·have c:0<cs.length:=List.length_pos_iff.2 u;obtain⟨ad,rfl,_⟩:=G.at c;have f:∀j v,cs[j]?=some v->w.cell? (ad.add j)=some v:=λj v S=>by
   obtain⟨T,e,U⟩:=G j v S;cases e;exact U
  rcases id h.2 with ⟨B,e2⟩|⟨g,cap,cur,B,V,O,Q,X,C,D⟩
  ·omega
  ·obtain⟨sa,sn,Y⟩:=s;simp only[Sl.v,Q2] at B;obtain⟨rfl,_,rfl⟩:=B;simp only at Q C D b E;rw[Rz] at C D;have i:o+cs.length<=cur.size:=by omega
   have z:=run_copy_row (P:=P) w m q ty e g o dl t ad M N cur e cs hu hs O I f i h1;have Z:a=some ⟨g,o,none⟩:=by rw[E u];simp[add_lit]
   rw[Z];have hl:(cur.toList.take o++cs++cur.toList.drop (o+cs.length)).toArray.size=cur.size:=by simp;omega
   refine⟨_,_,z,⟨(cs.length:Int),rfl,J _ ⟨?_,.inr ⟨g,Y,_,rfl,V,setRow_heap w g cur _ e _ O,Q,X,by rw[hl,Rz,C],?_⟩⟩ ⟨by simp[TK],λk _ hk=>setRow_other w g k _ (λe3=>hk ⟨_,rfl,e3.symm⟩)⟩ (by simp[TK])⟩,(.of_le rfl (QN _))⟩
   ·have:=h.1;simp only[Rz] at this ⊢;simp;omega
   ·simp only;rw[Rz,vr b (by omega),D]
structure St where
 N:Nat
 T:Nat->UInt8×List UInt8
section
variable {s:Pl}{n:ByteArray}{g:Int}{k:UInt8}{b:List UInt8}
end
abbrev iX:=ByteArray->Option St
section
variable {p p':Pl}{M:iX}{Q U:Nat}{n:ByteArray}{x:St}
end
section
variable {p p':Pl}{M:iX}{Q U:Nat}{n:ByteArray}{x:St}
end
section
variable {p:Pl}{M:iX}{Q U:Nat}{n:ByteArray}{x:St}
end
theorem wY {α:Type}:∀{A B:List α},A.Nodup->(∀a∈A,a∈B)->A.length<=B.length
 |[],_,_,_=>Q5 _
 |a::A,B,h,hs=>by
   have f:=hs a Q9;obtain⟨C,D,rfl⟩:=YQ f;obtain⟨h1,i⟩:=To.1 h;have:=wY (A:=A) (B:=C++D) i λb e=>by
    have c:=hs b (Q8 _ e);rcases QQ.1 c with u|u
    ·exact QQ.2 (.inl u)
    ·rcases QX.1 u with v|v
     ·subst v;exact absurd e h1
     ·exact QQ.2 (.inr v)
   simp only[Ri,Rr] at this ⊢;omega
section
variable {p:Pl}{M:iX}{Q U:Nat}{n:ByteArray}{x:St}
end
section
variable {p p':Pl}{M:iX}{Q U:Nat}{n:ByteArray}{x:St}
theorem uq {α β:Type}{f:α->β}:∀{l:List α},(l.map f).Nodup->∀{a b:α},a∈l->b∈l->f a=f b->a=b
 |c::l,h,a,b,j,i,e=>by
   rw[Q7,To] at h;obtain⟨h1,q⟩:=h;rcases QX.1 j with o|j
   ·rcases QX.1 i with m|i
    ·rw[o,m]
    ·exact absurd (QW.2 ⟨b,i,by rw[<-e,o]⟩) h1
   ·rcases QX.1 i with m|i
    ·exact absurd (QW.2 ⟨a,j,by rw[e,m]⟩) h1
    ·exact uq q j i e
end
section
variable {p:Pl}{M:iX}{Q U:Nat}{n:ByteArray}{x:St}
variable {w:RW}{W:Nat}{rs:List (List Int)}{i:Nat}
end
section
variable {p:Pl}{M:iX}{Q U:Nat}{n:ByteArray}{r:RR}{W:Nat}{rs:List (List Int)}
end
theorem kI:∀{hs:List (Option (List Int))},dU hs=none->∀(j:Nat) (y:List Int),hs[j]?≠some (some y)
 |[],_,j,y=>by simp
 |none::t,h,j,y=>by
   simp only[dU,Option.map_eq_none_iff] at h;cases j with
   |zero=>simp
   |succ j=>simpa using kI h j y
 |some a::t,h,j,y=>by
   simp only[dU] at h;cases e:dU t with
   |none=>rw[e] at h;cases h
   |some q=>
     obtain⟨k,z⟩:=q;rw[e] at h;simp only at h;split at h<;>cases h
theorem gW:∀{hs:List (Option (List Int))} {i:Nat} {x:List Int},dU hs=some (i,x)->hs[i]?=some (some x)/\∀(j:Nat) (y:List Int),hs[j]?=some (some y)->aX x y<=0/\(j<i->aX x y<0)
 |[],i,x,h=>by simp[dU] at h
 |none::t,i,x,h=>by
   simp only[dU,TP] at h;obtain⟨⟨k,z⟩,h1,B⟩:=h;cases B;obtain⟨a,b⟩:=gW h1;refine⟨by simpa using a,λj y f=>?_⟩;cases j with
   |zero=>simp at f
   |succ j=>
     obtain⟨c,d⟩:=b j y (by simpa using f);exact⟨c,λq=>d (by simpa using q)⟩
 |some a::t,i,x,h=>by
   simp only[dU] at h;cases e:dU t with
   |none=>
     rw[e] at h;cases h;refine⟨rfl,λj y f=>?_⟩;cases j with
     |zero=>simp at f;subst f;exact⟨aab (gN _),λq=>absurd q (Nat.lt_irrefl _)⟩
     |succ j=>exact absurd (by simpa using f) (kI e j y)
   |some q=>
     obtain⟨k,z⟩:=q;rw[e] at h;obtain⟨u,v⟩:=gW e;simp only at h;split at h
     ·rename_i m;cases h;refine⟨by simpa using u,λj y f=>?_⟩;cases j with
      |zero=>simp at f;subst f;exact⟨Int.le_of_lt m,λ_=>m⟩
      |succ j=>
        obtain⟨c,d⟩:=v j y (by simpa using f);exact⟨c,λq=>d (by omega)⟩
     ·rename_i C;cases h;have o:aX a z<=0:=by have:=bZ a z;omega
      refine⟨rfl,λj y f=>⟨?_,λq=>absurd q (Ye _)⟩⟩;cases j with
      |zero=>simp at f;subst f;exact aab (gN _)
      |succ j=>exact jO o (v j y (by simpa using f)).1
structure O9 where
 n:ByteArray
 L:List (List Int)
 rem:List (List Int)
 r:RR
 h:Option (List Int)
section
variable {M:iX}{W:Nat}{x:O9}{xs:List O9}
variable {p:Pl}{Q U:Nat}
end
section
open Go.MapKept
section
variable {L L':List Hx}{hs:List (Option (List Int))}
theorem cJ.nil (k:Nat):cJ [] (Q6 k none):=⟨UY,λi y=>⟨λh=>by
 rw[Vr] at h;split at h<;>simp at h,λ⟨x,h,_⟩=>by cases h⟩⟩
theorem cJ.empty (h:cJ [] hs):dU hs=none:=by
 cases e:dU hs with
 |none=>rfl
 |some q=>
   obtain⟨i,y⟩:=q;obtain⟨x,a,_⟩:=(h.mem i y).1 (gW e).1;cases a
theorem cJ.one (h:cJ L hs){x y:Hx}(a:x∈L)(c:y∈L)(e:x.no=y.no):x=y:=uq (f:=Hx.no) h.nodup a c e
theorem cJ.top (h:cJ L hs)(hO:Hp ahead L){top:Hx}(c:L[0]?=some top):dU hs=some (top.no,top.row):=by
 have mt:=QL c;cases e:dU hs with
 |none=>exact absurd ((h.mem top.no top.row).2 ⟨top,mt,rfl,rfl⟩) (kI e _ _)
 |some q=>
   obtain⟨i,y⟩:=q;obtain⟨o,t⟩:=gW e;obtain⟨x,f,hi,a⟩:=(h.mem i y).1 o;obtain⟨c1,c2⟩:=t top.no top.row ((h.mem _ _).2 ⟨top,mt,rfl,rfl⟩);obtain⟨j,z⟩:=QU.1 f;have m:=Iv fO hO c j x z;have B:x.no=top.no:=by
    rcases Ua x.no top.no with u|u|u
    ·refine absurd ?_ m;rcases Int.lt_or_eq_of_le c1 with v|v
     ·exact .inl (by rw[a];exact v)
     ·exact .inr ⟨by rw[a];exact v,u⟩
    ·exact u
    ·exact absurd (.inl (by rw[a];exact c2 (by omega))) m
   have C:=h.one f mt B;subst C;rw[<-hi,<-a]
theorem cJ.pop (h:cJ L hs){top:Hx}(j:L.Perm (top::L')):cJ L' (hs.set top.no none)/\∀x∈L',x.no≠top.no:=by
 have a:=(j.map Hx.no).nodup_iff.1 h.nodup;rw[Q7,To] at a;have f:∀x∈L',x.no≠top.no:=λx c q=>a.1 (QW.2 ⟨x,c,q⟩);refine⟨⟨a.2,λi y=>?_⟩,f⟩;by_cases e:i=top.no
 ·subst e;refine⟨λq=>?_,λ⟨x,c,q,_⟩=>absurd q (f x c)⟩;rw[Rx] at q;rw[if_pos rfl] at q;split at q<;>simp at q
 ·rw[RO (Sg e),h.mem];refine⟨λ⟨x,c,q,r⟩=>?_,λ⟨x,c,q⟩=>⟨x,j.mem_iff.2 (Q8 _ c),q⟩⟩;rcases QX.1 (j.mem_iff.1 c) with u|u
  ·subst u;exact absurd q.symm e
  ·exact⟨x,u,q,r⟩
theorem cJ.push (h:cJ L hs){x:Hx}(hi:x.no<hs.length)(m:∀y∈L,y.no≠x.no)(f:L'.Perm (L++[x])):cJ L' (hs.set x.no (some x.row)):=by
 refine⟨?_,λi y=>?_⟩
 ·refine(f.map Hx.no).nodup_iff.2 ?_;rw[Rm,Sz];refine⟨h.nodup,by simp,λa t c o=>?_⟩;simp at o;obtain⟨z,v,z2⟩:=QW.1 t;rw[o,<-z2];exact m z v
 ·by_cases e:i=x.no
  ·subst e;rw[RT hi];refine⟨λq=>?_,λ⟨z,j,q,r⟩=>?_⟩
   ·simp at q;exact⟨x,f.mem_iff.2 (by simp),rfl,q⟩
   ·rcases QQ.1 (f.mem_iff.1 j) with u|u
    ·exact absurd q (m z u)
    ·rw[Q1] at u;subst u;rw[r]
  ·rw[RO (Sg e),h.mem];refine⟨λ⟨z,j,q⟩=>⟨z,f.mem_iff.2 (Wh _ j),q⟩,λ⟨z,j,q,r⟩=>?_⟩;rcases QQ.1 (f.mem_iff.1 j) with u|u
   ·exact⟨z,u,q,r⟩
   ·rw[Q1] at u;subst u;exact absurd q.symm e
theorem cJ.len (h:cJ L hs):L.length<=hs.length:=by
 have:=wY h.nodup (B:=List.range hs.length) λa c=>by
  obtain⟨x,e,rfl⟩:=QW.1 c;have:=(h.mem x.no x.row).2 ⟨x,e,rfl,rfl⟩;exact List.mem_range.2 (QJ.1 this).1
 simpa using this
end
structure nh (w:RW)(nm:ByteArray)(c:Nat):Prop where
 wait:w.wait.length<=129*w.n
 n:w.n<=504
 rows:w.rows<=c
 width:0<=w.b.width/\w.b.width<=16
 name:w.b.name=nm
theorem iu {s:Pl}{n:ByteArray}{W:Int}:((bo s n W).2.1=none->(bo s n W).2.2≠0)/\∀w,(bo s n W).2.1=some w->(bo s n W).2.2=0/\w=xD n W/\0<=W/\W<=16:=by
 unfold bo;split
 ·exact⟨λ_=>(by simp),λw q=>(by cases q)⟩
 ·rename_i a;have c:0<=W/\W<=16:=by
   refine Classical.byContradiction λu=>a ?_;have:bI W=0:=by unfold bI;rw[if_pos (by omega)]
   unfold aL;rw[if_pos this]
  split
  ·rename_i h;exact⟨λ_=>h,λw q=>(by cases q)⟩
  ·split
   ·rename_i h;exact⟨λ_=>h,λw q=>(by cases q)⟩
   ·exact⟨λq=>(by cases q),λw q=>(by cases q;exact⟨rfl,rfl,c⟩)⟩
theorem nh.mono {w:RW}{n:ByteArray}{c d:Nat}(h:nh w n c)(hd:c<=d):nh w n d:=⟨h.wait,h.n,QZ h.rows hd,h.width,h.name⟩
theorem ym (n:ByteArray){W:Int}(h1:0<=W)(a:W<=16):nh (xD n W) n 0:=⟨Q5 _,Q5 _,QN _,⟨h1,a⟩,rfl⟩
theorem nh.add {w:RW}{n:ByteArray}{c:Nat}(h:nh w n c)(s:Pl)(l:List Int):nh (w.add s l).2.1 n (c+1)/\((w.add s l).2.2=0->(w.add s l).2.1.last=l/\0<(w.add s l).2.1.rows):=by
 have m:=h.mono (RB c);unfold RW.add;split
 ·rename_i q;exact⟨m,λu=>absurd u q⟩
 ·split
  ·exact⟨m,λu=>by simp at u⟩
  ·rename_i hl;split
   ·exact⟨m,λu=>by simp at u⟩
   ·have hw:=h.width;have e:=qP l;have a:(l.length:Int)=w.b.width:=Classical.not_not.1 hl;split
    ·rename_i f;have:=(de w.b);refine⟨⟨?_,?_,?_,h.width,h.name⟩,λ_=>⟨rfl,YR _⟩⟩
     ·show (w.wait++cZ (fh l)).length<=129*(w.n+1);have:=h.wait;rw[Ri,cv];omega
     ·show w.n+1<=504;omega
     ·show w.rows+1<=c+1;have:=h.rows;omega
    ·unfold RW.out;rw[if_neg (by show w.n+1≠0;omega)];refine⟨⟨Q5 _,Q5 _,by show w.rows+1<=c+1;have:=h.rows;omega,?_,?_⟩,λ_=>⟨rfl,YR _⟩⟩
     ·show 0<=((w.push l).b.cE _).width/\((w.push l).b.cE _).width<=16;rw[(Rb.lE _ _).2.1];exact h.width
     ·show ((w.push l).b.cE _).name=n;rw[(Rb.lE _ _).2.2];exact h.name
end
section
open Go.MapKept
section
variable {H0 A:aa}{F0 F:Nat->Prop}{col:Nat->Nat}{p dp:Nat}{s:Pl}{xs:List oh}{l:Sl}{kw:Nat}{w:RW}{sw sl:Sl}{kh:Nat}{hs:Sl}{L:List Hx}
theorem sU.add {K:Int->aa->Prop}{row:Sl}{y:List Int}{to:ByteArray}{c u v:Nat}(h:sU H0 F0 col p dp F A s xs l kw w sw sl kh hs L)(G:Gl H0)(I:¬F0 bt)(ok:nh w to c)(hc:c<1000000000000)(z:to.size<=9223372036854775807)(b:Bd s u v)(hu:u<1000000000000)(hv:v<68719460000)(hy:y.length<=16)
  (m:Ints .u64 A row y) (o:∀ad,row.a=some ad->col ad.block=3)
  (O:∀F' B col' f j,sU H0 F0 col' p dp F' B (w.add s y).1 xs l kw (w.add s y).2.1 f j kh hs L->A.size<=B.size->(∀b,b<A.size->col b≠0->col b≠2->col' b=col b/\B[b]?=A[b]?)->K (w.add s y).2.2 B):AK.sp (aK kw) row A K:=by
 have C:=h.rds.gl G I;have P:=G.lt;have dis:∀b,F b->¬dH kw sw sl b:=λb e q=>by
  have:=(h.rds.cF b e).1;have:=(h.cW b q).1;omega
 have D:=b.lo;have R:=b.hi;have T:=b.aH;have o1:=ok.wait;have o2:=ok.n;have o3:=ok.rows;refine C1 C (λq=>(h.cW _ q).2.elim I λu=>by omega) h.wr h.rds.aj dis m (λad V q=>by have:=o ad V;have:=(h.cW _ q).1;omega) (by omega) (by omega) (by omega) (by omega) (by rw[ok.name];exact z) (by omega) (by omega) D b.fit λF' f j B X Y Z S=>?_;have t:∃col':Nat->Nat,(∀b,F' b->col' b=0)/\(∀b,dH kw f j b->col' b=2)/\∀b,¬F' b->¬dH kw f j b->col' b=col b:=by
  classical
  refine⟨λb=>if F' b then 0 else if dH kw f j b then 2 else col b,λb e=>if_pos e,λb e=>?_,λb h1 h2=>?_⟩
  ·show (if F' b then _ else _)=_;rw[if_neg λq=>Z b q e,if_pos e]
  ·show (if F' b then _ else _)=_;rw[if_neg h1,if_neg h2]
 obtain⟨col',c1,c2,c3⟩:=t;have z0:=h.rds.mod.size;have old:∀b,b<A.size->F' b\/dH kw f j b->col b=0\/col b=2:=λb e q=>by
  rcases (S.own b q).resolve_right (by omega) with u|u
  ·exact .inl (h.rds.cF b u).1
  ·exact .inr (h.cW b u).1
 have same:∀b,b<A.size->col b≠0->col b≠2->col' b=col b:=λb e J n2=>c3 b (λq=>by rcases old b e (.inl q) with u|u<;>omega) λq=>by rcases old b e (.inr q) with u|u<;>omega
 have base:∀b,F' b\/dH kw f j b->F0 b\/H0.size<=b:=λb q=>by
  rcases S.own b q with (u|u)|u
  ·exact(h.rds.cF b u).2
  ·exact(h.cW b u).2
  ·exact .inr (by omega)
 have E:∀b,b<A.size->(F b\/dH kw sw sl b)->col b=0\/col b=2:=λb _ q=>q.imp (λu=>(h.rds.cF b u).1) λu=>(h.cW b u).1;refine O F' B col' f j ⟨h.rds.tP X S.mod (λb e q=>by have:=E b e q;omega) (λb e q=>?_) (λb e=>⟨c1 b e,base b (.inl e)⟩) (λb e q=>same b e (by omega) (by omega)),Y,h.G5 S.mod (λb e q=>by have:=E b e q;omega),λb e=>⟨c2 b e,base b (.inr e)⟩,λb e=>?_,λx N b e=>?_,h.ptr,h.ord⟩ S.mod.size λb e J n2=>⟨same b e J n2,S.mod.same b e λq=>by have:=E b e q;omega⟩
 ·rcases q with u|u
  ·exact(h.rds.cF b u).2.resolve_right (by omega)
  ·exact(h.cW b u).2.resolve_right (by omega)
 ·have a:=h.cH b e;rw[same b (h.heap.lt b e) (by omega) (by omega)];exact a
 ·have a:=h.cX x N b e;rw[same b ((h.heap.own x N).lt b e) (by omega) (by omega)];exact a
theorem eS.stop {K:Unit->aa->Prop}{i:Nat}{x:oh}(h:eS H0 F0 col p dp F A s xs l)(f:xs[i]?=some x)
  (v:∀B,eS H0 F0 col p dp F B s (xs.set i ⟨x.k,x.r.stop,x.si,x.srs⟩) l->Mod (λb=>b=x.k) A B->K () B):Jp.sp (aK x.k) A K:=by
 refine Jp.of ?_;unfold Jp.vc;unfold aK;refine aR rfl ?_;simp only[aw,add_add,Wl];have t:=h.rds i x f;have hi:=(QJ.1 f).1;have u:∀b,b=x.k->col b=5+i/\H0.size<=b:=λb q=>h.cR i x f b (.inl q);refine ao.st t.row (i:=5) (by simp[b8]) rfl λB r m z=>?_;rw[qm] at r;have ar:∀(j:Nat) (y:oh),j≠i->xs[j]?=some y->∀b,y.own b->¬(b=x.k):=λj y C a b c q=>by
  have:=(h.cR j y a b c).1;have:=(u b q).1;omega
 refine v B ⟨h.aj.ar λb c hl=>m.same b hl λq=>?_,λj y a=>?_,λy a=>?_,?_,h.cF,λj y a b c=>?_,h.cL,?_⟩ m
 ·have:=(h.cF b c).1;have:=(u b q).1;omega
 ·by_cases q:j=i
  ·subst q;rw[RT hi] at a;cases a;exact⟨r,t.ins.mod m (λb c q=>t.EG (q▸c)) λy a b c q=>t.jS y a (q▸c)⟩
  ·rw[RO (Sg q)] at a;exact(h.rds j y a).mod m (ar j y q a)
 ·rcases SH a with q|q
  ·exact h.oks y q
  ·subst q;obtain⟨o,n⟩:=h.oks x (QL f);exact⟨⟨o.room,o.at_,o.page,o.rows,o.cols⟩,n⟩
 ·have e:(xs.set i ⟨x.k,x.r.stop,x.si,x.srs⟩).map (·.k)=xs.map (·.k):=by
   rw[R9];apply Sy;intro j;rw[Rx];split
   ·rename_i q;subst q;rw[QV,f];simp[hi]
   ·rfl
  rw[e];exact h.list.mod m λb c q=>by
   have:=(h.cL b c).1;have:=(u b q).1;omega
 ·by_cases q:j=i
  ·subst q;rw[RT hi] at a;cases a;exact h.cR j x f b c
  ·rw[RO (Sg q)] at a;exact h.cR j y a b c
 ·exact h.mod.trans' m λb c q=>by have:=(u b q).2;omega
end
end
section
open Go.MapKept
theorem nO:∀{rs:List RR} {i:Nat} {r r':RR},rs[i]?=some r->bT (rs.set i r')+(r.rows - r.at_)=bT rs+(r'.rows - r'.at_)
 |[],i,r,r',h=>by simp at h
 |a::rs,0,r,r',h=>by
   simp at h;subst h;unfold bT;simp only[Tq,Q7,RS];omega
 |a::rs,i+1,r,r',h=>by
   have:=nO (rs:=rs) (i:=i) (r':=r') (by simpa using h);unfold bT at this ⊢;simp only[VG,Q7,RS];omega
theorem nv:∀{hs:List (Option (List Int))} {i:Nat} {a b:Option (List Int)},hs[i]?=some a->gH (hs.set i b)+(if a.isSome then 1 else 0)=gH hs+(if b.isSome then 1 else 0)
 |[],i,a,b,h=>by simp at h
 |c::hs,0,a,b,h=>by
   simp at h;subst h;unfold gH;simp only[Tq,Q7,RS];omega
 |c::hs,i+1,a,b,h=>by
   have:=nv (hs:=hs) (i:=i) (b:=b) (by simpa using h);unfold gH at this ⊢;simp only[VG,Q7,RS];omega
theorem BR (k:Nat):gH (Q6 k none)=0:=by
 induction k with
 |zero=>rfl
 |succ k a=>
   unfold gH at a ⊢;rw[List.replicate_succ,Q7,RS,a];rfl
theorem RR.kY {r:RR}(h:r.Ok)(s:Pl):((r.next s).2.1.rows - (r.next s).2.1.at_)+(if (ez (r.next s).2.2.1 (r.next s).2.2.2.1).isSome then 1 else 0)=r.rows - r.at_:=by
 obtain⟨_,_,a,c,f⟩:=RR.fC h s;have m:=h.at_;unfold ez;cases e:(r.next s).2.2.2.1 with
 |true=>
   obtain⟨o,j,_⟩:=c e;rw[a,j];simp;omega
 |false=>
   rw[a,f e];simp
structure fx (xs0:List oh)(s0:Pl)(i:Nat)(s:Pl)(xs:List oh)(L:List Hx)(hs:List (Option (List Int))):Prop where
 len:xs.length=xs0.length
 hlen:hs.length=xs0.length
 later:xs.drop i=xs0.drop i
 rest:hs.drop i=Q6 (xs0.length - i) none
 lK:cJ L hs
 eq:bp (xs0.map (·.r)) s0=((bp ((xs.drop i).map (·.r)) s).1,(xs.take i).map (·.r)++(bp ((xs.drop i).map (·.r)) s).2.1,hs.take i++(bp ((xs.drop i).map (·.r)) s).2.2.1,(bp ((xs.drop i).map (·.r)) s).2.2.2)
 count:bT (xs.map (·.r))+gH hs<=bT (xs0.map (·.r))
theorem fx.first (xs:List oh)(s:Pl):fx xs s 0 s xs [] (Q6 xs.length none):=
 ⟨rfl,Ti,rfl,by simp,.nil _,by simp,by rw[BR];exact QN _⟩
section
variable {xs0 xs:List oh}{s0 s:Pl}{i:Nat}{L L':List Hx}{hs:List (Option (List Int))}{y y':oh}
theorem fx.at_ (h:fx xs0 s0 i s xs L hs)(hi:i<xs0.length):∃y,xs[i]?=some y/\hs[i]?=some none/\(∀x∈L,x.no≠i)/\xs.drop i=y::xs.drop (i+1):=by
 have a:i<xs.length:=by rw[h.len];exact hi
 have c:hs[i]?=some none:=by
  have:(hs.drop i)[0]?=some none:=by rw[h.rest,Vr,if_pos (by omega)]
  rwa [Si,Ux] at this
 refine⟨xs[i],QK a,c,λx e q=>?_,Rw a⟩;have:=(h.lK.mem i x.row).2 ⟨x,e,q,rfl⟩;rw[c] at this;simp at this
theorem fx.next (h:fx xs0 s0 i s xs L hs)(hi:i<xs0.length)(m:xs[i]?=some y)(ok:y.r.Ok)(a:y'.r=(y.r.next s).2.1)(he:(y.r.next s).2.2.2.2=0)
  (h1:(y.r.next s).2.2.2.1=true->∃row ptr,L'.Perm (L++[⟨i,row,ptr,(y.r.next s).2.2.1⟩])) (t:(y.r.next s).2.2.2.1=false->L'=L):
  fx xs0 s0 (i+1) (y.r.next s).1 (xs.set i y') L' (hs.set i (ez (y.r.next s).2.2.1 (y.r.next s).2.2.2.1)):=by
 obtain⟨y0,o,a2,a3,a4⟩:=h.at_ hi;rw[m] at o;cases o;have f:i<xs.length:=by rw[h.len];exact hi
 have c:i<hs.length:=by rw[h.hlen];exact hi
 have d1:(xs.set i y').drop (i+1)=xs.drop (i+1):=Wq (by omega);have t1:(xs.set i y').take (i+1)=xs.take i++[y']:=by
  rw[QO (by simpa using f)];rw[Vo (QN _)];simp
 have t2:∀v:Option (List Int),(hs.set i v).take (i+1)=hs.take i++[v]:=λv=>by
  rw[QO (by simpa using c)];rw[Vo (QN _)];simp
 have hd:cJ L' (hs.set i (ez (y.r.next s).2.2.1 (y.r.next s).2.2.2.1)):=by
  cases e:(y.r.next s).2.2.2.1 with
  |true=>
    obtain⟨row,ptr,u⟩:=h1 e;exact h.lK.push (x:=⟨i,row,ptr,(y.r.next s).2.2.1⟩) c a3 u
  |false=>
    rw[t e];have:hs.set i (ez (y.r.next s).2.2.1 false)=hs:=by
     apply Sy;intro j;rw[Rx];split
     ·rename_i q;subst q;rw[a2];rfl
     ·rfl
    rw[this];exact h.lK
 refine⟨by rw[Zt];exact h.len,by rw[Zt];exact h.hlen,?_,?_,hd,?_,?_⟩
 ·rw[d1];have:=congrArg (ZP 1) h.later
  rwa [TZ,TZ] at this
 ·rw[Wq (by omega)];have:=congrArg (ZP 1) h.rest;rw[TZ,List.drop_replicate] at this;rw[this];rfl
 ·rw[h.eq,a4,Q7,d1,t1,t2];simp only[bp];rw[if_neg (by rw[he];simp)];simp[a]
 ·have c1:=nO (rs:=xs.map (·.r)) (i:=i) (r:=y.r) (r':=y'.r) (by rw[QV,m];rfl);have c2:=nv (i:=i) (b:=ez (y.r.next s).2.2.1 (y.r.next s).2.2.2.1) a2;have z:=RR.kY ok s;have B:=h.count;rw[R9];rw[a] at c1 ⊢;simp only[Option.isSome_none] at c2;simp only[SL,if_false,Ux] at c2;omega
theorem fx.bad (h:fx xs0 s0 i s xs L hs)(hi:i<xs0.length)(c:xs[i]?=some y)(he:(y.r.next s).2.2.2.2≠0):(bp (xs0.map (·.r)) s0).1=(y.r.next s).1/\(bp (xs0.map (·.r)) s0).2.2.2=(y.r.next s).2.2.2.2:=by
 obtain⟨y0,a,a2,a3,a4⟩:=h.at_ hi;rw[c] at a;cases a;rw[h.eq,a4,Q7];simp only[bp];rw[if_pos he];exact⟨rfl,rfl⟩
theorem fx.done (h:fx xs0 s0 xs0.length s xs L hs):bp (xs0.map (·.r)) s0=(s,xs.map (·.r),hs,0):=by
 have e:=h.eq;rw[<-h.len,TV,Ut,h.len,<-h.hlen,Ut] at e;simpa[bp] using e
end
end
section
open Go.MapKept
structure ya (H0:aa)(F0:Nat->Prop)(p dp:Nat)(A:aa)(l:Sl)(kw kh:Nat)(to:ByteArray)(f0 u v:Nat)(res:Pl×Nat×Int)(f:Nat)(z:Sl×Bool):Prop where
 ex:∃col F s xs w sw sl hs L hl,sU H0 F0 col p dp F A s xs l kw w sw sl kh hs L/\cJ L hl/\hl.length=xs.length/\xs.length<=1000000/\bT (xs.map (·.r))+gH hl<f/\res=gO f s (xs.map (·.r)) hl w/\nh w to (f0 - f)/\Bd s (u+2*(f0 - f)) (v+3*(f0 - f))/\f<=f0/\z.2=decide (w.rows=0)/\(w.rows≠0->aO A 0 fM 1 z.1 (w.last.map (QT .u64))/\w.last.length<=16/\∀b,ai z.1 b->col b=3)
theorem sU.Ow {H0 A:aa}{F0 F:Nat->Prop}{col col':Nat->Nat}{p dp:Nat}{s:Pl}{xs:List oh}{l:Sl}{kw:Nat}{w:RW}{sw sl:Sl}{kh:Nat}{hs:Sl}{L:List Hx}(h:sU H0 F0 col p dp F A s xs l kw w sw sl kh hs L)(c:∀b,b<A.size->col' b=col b):sU H0 F0 col' p dp F A s xs l kw w sw sl kh hs L:=
 ⟨h.rds.tP (G:=λ_=>False) h.rds.aj (.refl _ _) (λ_ _ q=>q.elim) (λ_ _ q=>q.elim) (λb a=>by rw[c b (h.rds.aj.lt b a)];exact h.rds.cF b a) (λb a _=>c b a),h.wr,h.heap,
  λb a=>by rw[c b (h.wr.lt b a)];exact h.cW b a,λb a=>by rw[c b (h.heap.lt b a)];exact h.cH b a,λx e b a=>by rw[c b ((h.heap.own x e).lt b a)];exact h.cX x e b a,h.ptr,h.ord⟩
section
variable {H:aa}{F:Nat->Prop}{p dp:Nat}{s:Pl}{names:Sl}{ns:List ByteArray}{to:ByteArray}{W:Int}
set_option maxHeartbeats 2000000 in
theorem EY {K:(Int×Int)->aa->Prop}{A:aa}{l:Sl}{kw kh f0 f u v:Nat}{res:Pl×Nat×Int}(hg:Gl H)(h0:¬F bt)(bN:to.size<=9223372036854775807)(ew:f0<=20000000000)(hu:u+2*f0<990000000000)(hv:v+3*f0<68000000000)
  (h:ya H F p dp A l kw kh to f0 u v res f (Sl.mk none 0 0,true))
  (hK:∀F' B,aA F' B p dp res.1->Step F F' H B->K ((res.2.1:Int),res.2.2) B):
  ay (Sl×Bool) ((Sl.mk none 0 0),true) A λan bO H6=>ld aq H6 ((⟨kh,0,none⟩:hY).add 0) λ(x:Sl)=>br (decide ((x.n:Int)>(0:Int))) (KO.sp (some ⟨kh,0,none⟩) H6 λ(bx:(Int×Sl×Option hY)) H7=>aG H7 (zc QH kC) kC λS H8=>jo QH (Instr.storeAt kC (.pointer (some S)) (.agg #[.int .i64 bx.1,bx.2.1.v,.pointer bx.2.2])) H8 λH9=>cut Unit (λJ=>br bO.2 (ld aq H9 (S.add 1) λ(c4:Sl)=>AK.sp (aK kw) c4 H9 λ(b0:Int) b1=>br (b0 !=(0:Int)) (K ((0:Int),b0) b1) (J () b1)) (ld aq H9 (S.add 1) λ(c5:Sl)=>wU.sp c5 bO.1 H9 λ(dc:Int) bA=>br (dc !=(0:Int)) (ld aq bA (S.add 1) λ(dk:Sl)=>AK.sp (aK kw) dk bA λ(b2:Int) b3=>br (b2 !=(0:Int)) (K ((0:Int),b2) b3) (J () b3)) (J () bA))) λ(_:Unit) bB=>ld aq bB (S.add 1) λ(last:Sl)=>cN (bR [(ab .i64),aq,aB]) 3 bB S λ(bC:(Int×Sl×Option hY))=>IT.sp (some ⟨kh,0,none⟩) bC.1 bC.2.1 bC.2.2 bB λ(b4:Int) b5=>br (b4 !=(0:Int)) (K ((0:Int),b4) b5) (an (last,false) b5)) (ay Int (0:Int) H6 λa1 V bD=>br (decide (V<(l.n:Int))) (ae l.a λdm=>(0<=V/\V<(l.n:Int))/\ld aB bD (dm.add (V.toNat*1)) λ(dn:Option hY)=>Jp.sp dn bD λ(_:Unit) dA=>a1 (QI.wrap (V+(1:Int))) dA) (GU.sp (aK kw) bD λ(b6:(Int×Int)) dB=>K (b6.1,b6.2) dB)):=by
 refine⟨Nat,λf z A=>ya H F p dp A l kw kh to f0 u v res f z,λf=>f,⟨f,h⟩,?_⟩;rintro f ⟨last,fst⟩ A ⟨col,F',s',xs,w,sw,sl,hs,L,hl,t,hT,hlen,dD,hf,a8,hw,bd,ey,X,Y⟩;simp only at X Y;cases f with
 |zero=>exact absurd hf (Ye _)
 |succ f=>
 have eA:=hg.lt;refine ao.ld (c:=aq) (i:=0) (x:=hs) t.heap.row rfl ?_;have hn:hs.n=L.length:=aF.n t.heap.els (by decide);have dT:L.length<=1000000:=by have:=hT.len;omega
 cases a6:L with
 |nil=>
   rw[a6] at hn;refine aE (by rw[hn];rfl) ?_;have j:dU hl=none:=by rw[a6] at hT;exact hT.empty
   have er:res=((w.close s').1,(w.close s').2.2.1,(w.close s').2.2.2):=by
    rw[a8];unfold gO;rw[j]
   rw[er] at hK;refine av xs.length (λi z B=>z=(i:Int)/\∃ys,ys.length=xs.length/\eS H F col p dp F' B s' ys l/\qw B kw p w sw sl) ⟨rfl,xs,rfl,t.rds,t.wr⟩ ?_;rintro i z B next hi ⟨rfl,ys,eb,Z,b7⟩ bM
   have ec:l.n=ys.length:=by rw[aF.n Z.list (by decide)];simp
   refine ah (λhc=>?_) (λhc=>?_)
   ·have O:i<ys.length:=by
     have:(i:Int)<(l.n:Int):=by simpa using hc
     omega
    have hy:ys[i]?=some ys[i]:=QK O;refine bX.one (E:=dW) (c:=aB) (y:=aK ys[i].k) Z.list.rd (by rw[ec];simp) rfl (i:=i) (x:=ys[i].k) (by rw[QV,hy];rfl) rfl ?_;refine Z.stop hy λC hC mC=>?_;rw[aD i (by omega)];exact bM (by omega) _ C ⟨rfl,_,by simp;exact eb,hC,b7.mod mC λb j q=>by
     have:=(t.cW b j).1;have:=(Z.cR i _ hy b (.inl q)).1;omega⟩
   ·have ed:=Z.gl hg h0;have q1:=bd.lo;have q2:=bd.hi;have q3:=bd.aH;have o:=bd.out (w:=w) (by omega);have o1:=o.hi;have o2:=o.aH;refine wO ed (λq=>(t.cW _ q).2.elim h0 λr=>by omega) b7 Z.aj (λb j q=>by have:=(Z.cF b j).1;have:=(t.cW b q).1;omega) (by have:=hw.rows;omega) hw.width.1 (by rw[hw.name];exact bN) (by omega) (by omega) q1 bd.fit (by omega) (by omega) (λx hd=>?_) λI eB C p2 w2 d2 S2=>?_
    ·rw[Pl.C0,Pl.G8];have:=(w.out s').1.uM w.b.name 0;omega
    ·refine hK I C p2 ⟨Z.mod.trans' S2.mod λb j q=>?_,λb j=>?_⟩
     ·rcases q with r|r
      ·exact(Z.cF b r).2.resolve_right (by omega)
      ·exact(t.cW b r).2.resolve_right (by omega)
     ·rcases S2.own b (.inl j) with (r|r)|r
      ·exact(Z.cF b r).2
      ·exact(t.cW b r).2
      ·have:=Z.mod.size;exact .inr (by omega)
 |cons top L0=>
   have ht:L[0]?=some top:=by rw[a6];rfl
   have mt:=QL ht;have j:=hT.top t.ord ht;refine aR (by rw[hn,a6];simp) ?_;obtain⟨y,hy,b9⟩:=t.ptr top mt;refine J4 t.heap t.ord ht dT λhs' L' A1 hA hO hP mA oA=>?_;have af:∀x∈L',x∈L:=λx hx=>hP.mem_iff.2 (Q8 _ hx);obtain⟨bb,c1,ee⟩:=t.GG hA hO mA (λb j=>.inl (oA b j)) (λx hx b j=>⟨(t.heap.own x (af x hx)).lt b j,t.cX x (af x hx) b j⟩) λx hx=>t.ptr x (af x hx);have bh:=t.heap.own top mt;have bl:∀b,col b=3->¬(b=kh\/ai hs b):=λb j q=>by have:=(t.cH b q).1;omega
   have al:aO A1 0 fM 1 top.sl (top.row.map (QT .u64)):=bh.mod mA λb j=>bl b (t.cX top mt b j);have eg:∀b,ai top.sl b->bb b=3:=λb j=>by rw[c1 b (bh.lt b j)];exact t.cX top mt b j
   refine au λA2 z2 r2 e2=>?_;refine ao.iE (cs:=(Fu top).toArray) r2 nS xV (λx hx=>M4.one top x (show x∈Fu top by simpa using hx)) λA3 r3 m3 z3=>?_;have e3:Ext A1 A3:=⟨by have:=m3.size;omega,λb j _=>(m3.same b (by omega) (by intro q;have:b=A1.size:=q;omega)).trans (e2.same b j id)⟩;obtain⟨bn,x1,x2⟩:=iI bb A1.size (λ_=>False) (λ_=>False) (λ_=>True) 1 1 3 (λ_ q=>q.elim) (λ_ q=>q.elim) λ_ q=>q.elim;have cb:=(ee.Ow x1).ext e3;have a7:∀b,ai top.sl b->bn b=3:=λb j=>by rw[x1 b (al.lt b j)];exact eg b j
   have D:=al.ext e3;obtain⟨ck,ei⟩:=hT.pop hP;have f16:=t.heap.iY top mt;have ej:top.no<hl.length:=by
    have:=(hT.mem top.no top.row).2 ⟨top,mt,rfl,rfl⟩;exact(QJ.1 this).1
   have er:res=if (aV s' w top.row).2.2≠0 then ((aV s' w top.row).1,0,(aV s' w top.row).2.2)
    else if (y.r.next (aV s' w top.row).1).2.2.2.2≠0 then ((y.r.next (aV s' w top.row).1).1,0,(y.r.next (aV s' w top.row).1).2.2.2.2)
    else gO f (y.r.next (aV s' w top.row).1).1 ((xs.map (·.r)).set top.no (y.r.next (aV s' w top.row).1).2.1) (hl.set top.no (ez (y.r.next (aV s' w top.row).1).2.2.1 (y.r.next (aV s' w top.row).1).2.2.2.1)) (aV s' w top.row).2.1:=by
    have ek:(xs.map (·.r)).getD top.no default=y.r:=by rw[RY,QV,hy];rfl
    rw[a8];show (match dU hl with|none=>_|some (i,x)=>_)=_;rw[j];simp only;rw[ek]
   have eC:A.size<=A3.size:=by have:=mA.size;have:=e3.size;omega
   have cm:∀b,b<A.size->col b=3->A3[b]?=A[b]?:=λb j hc=>(e3.same b (by have:=mA.size;omega) id).trans (mA.same b j (bl b hc));refine⟨λ_ B=>(aV s' w top.row).2.2=0/\∃m I P R,sU H F m p dp I B (aV s' w top.row).1 xs l kw (aV s' w top.row).2.1 P R kh hs' L'/\nh (aV s' w top.row).2.1 to (f0 - f)/\(aV s' w top.row).2.1.last=top.row/\0<(aV s' w top.row).2.1.rows/\Bd (aV s' w top.row).1 (u+2*(f0 - (f+1))+1) (v+3*(f0 - (f+1))+2)/\
    ao B A1.size kC (Fu top).toArray/\aO B 0 fM 1 top.sl (top.row.map (QT .u64))/\(∀b,ai top.sl b->m b=3)/\A3.size<=B.size,?_,?_⟩
   ·have added:∀(Kb:Int->aa->Prop),(aV s' w top.row)=w.add s' top.row->(∀B,(w.add s' top.row).2.2≠0->(∃I,aA I B p dp (w.add s' top.row).1/\Step F I H B)->Kb (w.add s' top.row).2.2 B)->
      (∀B,((aV s' w top.row).2.2=0/\∃m I P R,sU H F m p dp I B (aV s' w top.row).1 xs l kw (aV s' w top.row).2.1 P R kh hs' L'/\nh (aV s' w top.row).2.1 to (f0 - f)/\(aV s' w top.row).2.1.last=top.row/\0<(aV s' w top.row).2.1.rows/\Bd (aV s' w top.row).1 (u+2*(f0 - (f+1))+1) (v+3*(f0 - (f+1))+2)/\
       ao B A1.size kC (Fu top).toArray/\aO B 0 fM 1 top.sl (top.row.map (QT .u64))/\(∀b,ai top.sl b->m b=3)/\A3.size<=B.size)->(w.add s' top.row).2.2=0->Kb (w.add s' top.row).2.2 B)->AK.sp (aK kw) top.sl A3 Kb:=by
     intro Kb ea k1 k2;refine cb.add hg h0 hw (by omega) bN bd (by omega) (by omega) f16 D.ints (λad ha=>a7 _ ⟨ad,ha,rfl⟩) λI B m P R hB zB oB=>?_;by_cases G:(w.add s' top.row).2.2=0
     ·have ra:=hw.add s' top.row;have en:=oB A1.size (by omega) (by rw[(x2 A1.size (QN _)).2.2 trivial];decide) (by rw[(x2 A1.size (QN _)).2.2 trivial];decide);refine k2 B ?_ G;rw[ea];refine⟨G,m,I,P,R,hB,ra.1.mono (by omega),(ra.2 G).1,(ra.2 G).2,bd.add (by omega) _,en.2.trans r3,D.ar λb j O=>?_,λb j=>?_,zB⟩
      ·have c:=a7 b j;exact(oB b O (by omega) (by omega)).2
      ·have c:=a7 b j;exact(oB b (D.lt b j) (by omega) (by omega)).1.trans c
     ·exact k1 B G ⟨I,hB.rds.aj,hB.rds.step⟩
    have bad:∀B,(aV s' w top.row)=w.add s' top.row->(w.add s' top.row).2.2≠0->(∃I,aA I B p dp (w.add s' top.row).1/\Step F I H B)->K ((0:Int),(w.add s' top.row).2.2) B:=λB ea G ⟨I,p2,S2⟩=>by
     have cx:=er;rw[ea,if_pos G] at cx;rw[cx] at hK;exact hK I B p2 S2
    by_cases T:w.rows=0
    ·have ea:aV s' w top.row=w.add s' top.row:=by unfold aV;rw[if_pos (.inl T)]
     refine aR (by rw[X];exact decide_eq_true T) ?_;refine ao.ld (c:=aq) (i:=1) (x:=top.sl) r3 rfl ?_;refine added _ ea (λB G q=>aR (by simpa using G) (bad B ea G q)) λB hJ G=>aE (by rw[G];rfl) hJ
    ·refine aE (by rw[X];exact decide_eq_false T) ?_;obtain⟨l1,l2,l3⟩:=Y T;refine ao.ld (c:=aq) (i:=1) (x:=top.sl) r3 rfl ?_;have eo:Ints .u64 A3 last w.last:=(l1.ar λb j O=>cm b O (l3 b j)).ints;refine gU D.ints eo (by omega) ?_;by_cases N:aX top.row w.last=0
     ·have ea:aV s' w top.row=(s',w,0):=by unfold aV;rw[if_neg (by rintro(q|q);exact T q;exact q N)]
      refine aE (by rw[N];rfl) ?_;rw[ea];exact⟨rfl,bn,F',sw,sl,cb,hw.mono (by omega),(cr.1 N).symm,Nat.pos_of_ne_zero T,bd.mono (by omega) (by omega),r3,D,a7,QN _⟩
     ·have ea:aV s' w top.row=w.add s' top.row:=by unfold aV;rw[if_pos (.inr N)]
      refine aR (by simpa using N) ?_;refine ao.ld (c:=aq) (i:=1) (x:=top.sl) r3 rfl ?_;refine added _ ea (λB G q=>aR (by simpa using G) (bad B ea G q)) λB hJ G=>aE (by rw[G];rfl) hJ
   ·rintro _ B ⟨G,m,I,P,R,hB,ep,cy,eD,cz,rB,oB,cB,zB⟩;rw[if_neg (by rw[G];simp)] at er;generalize aV s' w top.row=a at*;refine ao.ld (c:=aq) (i:=1) (x:=top.sl) rB rfl ?_;refine ao.cN (x:=((top.no:Int),top.sl,top.ptr)) rB rfl rfl ?_;rw[b9];refine yU hB hg h0 hy cz (by omega) (by omega) (by have:=hP.length_eq;simp at this;omega) λF3 C c0 y' et L2 hC q2 q3 q4 q5 q6 q7=>?_;by_cases e1:(y.r.next a.1).2.2.2.2=0
    ·rw[if_neg (by rw[e1];simp)] at er;refine aE (by rw[e1];rfl) ?_;have eu:=cz.next (r:=y.r) (by omega);have bs:(hl.set top.no none).set top.no (ez (y.r.next a.1).2.2.1 (y.r.next a.1).2.2.2.1)=hl.set top.no (ez (y.r.next a.1).2.2.1 (y.r.next a.1).2.2.2.1):=Xe _;have hd:cJ L2 (hl.set top.no (ez (y.r.next a.1).2.2.1 (y.r.next a.1).2.2.2.1)):=by
      cases e:(y.r.next a.1).2.2.2.1 with
      |true=>
        obtain⟨row,ptr,ev⟩:=q3 e;rw[e] at bs;rw[<-bs];exact ck.push (x:=⟨top.no,row,ptr,(y.r.next a.1).2.2.1⟩) (by simpa using ej) ei ev
      |false=>
        rw[q4 e];exact ck
     have c1:=nO (rs:=xs.map (·.r)) (i:=top.no) (r:=y.r) (r':=y'.r) (by rw[QV,hy];rfl);have c2:=nv (i:=top.no) (b:=ez (y.r.next a.1).2.2.1 (y.r.next a.1).2.2.2.1) ((hT.mem top.no top.row).2 ⟨top,mt,rfl,rfl⟩);have c3:=RR.kY (t.rds.oks y (QL hy)).1 a.1;rw[q2] at c1;simp only[Option.isSome_some,if_true] at c2;refine⟨f,⟨c0,F3,_,xs.set top.no y',a.2.1,P,R,et,L2,_,hC,hd,by simp;exact hlen,by simp;exact dD,?_,?_,ep,eu.mono (by omega) (by omega),by omega,(decide_eq_false (by omega)).symm,λ_=>⟨?_,by rw[cy];exact f16,λb j=>?_⟩⟩,Us _⟩
     ·rw[R9,q2];omega
     ·rw[er,R9,q2]
     ·rw[cy];exact oB.ar λb j O=>q7 b O (cB b j)
     ·rw[q5 b (oB.lt b j)];exact cB b j
    ·rw[if_pos e1] at er;rw[er] at hK;exact aR (by simpa using e1) (hK F3 C hC.rds.aj hC.rds.step)
end
end
section
open Go.MapKept
theorem wg {W:Int}{ns:List ByteArray}{s:Pl}{x y:Nat}(b:Bd s x y)(hl:ns.length<=1000000)(a:x<900000000000):Bd (bc W ns s).1 (x+1000000) (y+1000000):=
 (tt (ns:=ns) (W:=W) b (by omega)).mono (by omega) (by omega)
theorem wK {rs:List RR}{m:Pl×Option RW×Int}{w:RW}(h:m.2.1=some w):mU rs m=Bj (bp rs m.1) w:=by unfold mU;rw[h]
section
variable {H:aa}{F:Nat->Prop}{p dp:Nat}{s:Pl}{names:Sl}{ns:List ByteArray}{to:ByteArray}{W:Int}
set_option maxHeartbeats 2000000 in
theorem zT {K:(Int×Int)->aa->Prop}{x y N:Nat}(P:Gl H)(hp:aA F H p dp s)(hn:names.n=ns.length)(an:∀A,Mod F H A->bX kz A names.a ns)(a1:∀n∈ns,n.size<=9223372036854775807)(R:to.size<=9223372036854775807)(b:Bd s x y)(hl:ns.length<=1000000)(D:x<800000000000)(hy:y<50000000000)
  (hN:bT (bc W ns s).2.1<=N) (bB:N<=10000000000) (bC:x+2*N<900000000000) (bD:y+3*N<67000000000)
  (e:∀F' A,aA F' A p dp (cV s ns to W).1->Step F F' H A->K (((cV s ns to W).2.1:Int),(cV s ns to W).2.2) A):Da.sp (aK p) names to W H K:=by
 refine Da.of ?_;unfold Da.vc;have G:=hp.fi;have bN:=P.lt;refine aE rfl ?_;unfold cV at e;by_cases t:ns=[]
 ·rw[if_pos t] at e;refine aR (by rw[hn,t];rfl) ?_;exact e F H hp (.refl _ _)
 rw[if_neg t] at e;have a6:names.n≠0:=by rw[hn];exact λq=>t (Ra q)
 refine aE (by simpa using a6) ?_;have S:=wg (W:=W) b hl (by omega);refine GR P hp hn an a1 b hl (by omega) (by omega) (λe0 F1 A p1 S1=>?_) (λe0 F1 A col xs l o hr hlen=>?_)
 ·rw[if_pos e0] at e;exact aR (by simpa using e0) (e F1 A p1 S1)
 rw[if_neg (by rw[e0];simp)] at e;refine aE rfl ?_;rw[<-hr] at e hN;generalize (bc W ns s).1=s1 at*;have a7:=o.gl P G;have q1:=S.lo;have q2:=S.hi;have q3:=S.aH;have bM:=S.make (n:=to) (W:=W) (by omega);refine yr a7 o.aj R (by omega) (by omega) q1 S.fit (λT B p2 V X=>?_) (λT B kw w p2 V X w2 k1 k2=>?_)
 ·have e1:=iu.1 X;have em:mU (xs.map (·.r)) (bo s1 to W)=((bo s1 to W).1,0,(bo s1 to W).2.2):=by unfold mU;rw[X]
  rw[em] at e;exact aR (by simpa using e1) (e T B p2 (o.step.trans V))
 obtain⟨e1,hw,W0,a8⟩:=iu.2 w X;subst hw;rw[wK X] at e;generalize (bo s1 to W).1=s2 at*;rw[e1];refine aE rfl ?_;refine au λC zC rC eC=>?_;have zR:=o.mod.size;have zS:=V.mod.size;have bb:∀b,dH kw aY aY b->b=kw:=by
  rintro b (q|q|q)
  ·exact q
  ·exact absurd q (aU b)
  ·exact absurd q (aU b)
 have b0:=w2.lt kw (.inl rfl);obtain⟨f,c1,c2⟩:=iI col A.size T (λb=>b=kw) (λb=>b=B.size) 0 2 1 (λb q r=>k2 (r▸q)) (λb q r=>by have:=p2.lt b q;omega) (λb q r=>by omega);have bd:=o.tP (col':=f) p2 V.mod (λb I q=>by rw[(o.cF b q).1];decide) (λb I q=>(o.cF b q).2.resolve_right (by omega)) (λb q=>by
  rcases V.own b q with r|r
  ·rw[c1 b (o.aj.lt b r)];exact o.cF b r
  ·exact⟨(c2 b r).1 q,.inr (by omega)⟩) λb I _=>c1 b I
 have hM:sU H F f p dp T C s2 xs l kw (xD to W) aY aY B.size aY []:=by
  refine⟨bd.ext eC,w2.mod eC λ_ _=>id,⟨rC,aF.nil _ _ _,λx D=>(by cases D),λx D=>(by cases D)⟩,λb I=>?_,λb I=>?_,λx D=>(by cases D),λx D=>(by cases D),λi a b _ ha=>by simp at ha⟩
  ·have:=bb b I;subst this;exact⟨(c2 b k1).2.1 rfl,.inr (by omega)⟩
  ·rcases I with q|q
   ·subst q;exact⟨(c2 B.size (by omega)).2.2 rfl,by omega⟩
   ·exact absurd q (aU b)
 have bh:xs.length<=1000000:=by omega
 have bl:l.n=xs.length:=by rw[aF.n o.list (by decide)];simp
 refine av xs.length (λi z A=>z=(i:Int)/\∃F' s' col Y L hs hsl,sU H F col p dp F' A s' Y l kw (xD to W) aY aY B.size hsl L/\fx xs s2 i s' Y L hs/\Bd s' (x+1000001+i) (y+1000002+i)) ⟨rfl,T,s2,f,xs,[],_,aY,hM,.first xs s2,bM⟩ ?_;rintro i z A' next hi ⟨rfl,F3,s3,Z,h,L3,j,af,u,hH,b3⟩ J
 refine ah (λhc=>?_) (λhc=>?_)
 ·have v:i<xs.length:=by
   have:(i:Int)<(l.n:Int):=by simpa using hc
   omega
  obtain⟨yx,m,_⟩:=hH.at_ v;have ok:=(u.rds.oks yx (QL m)).1;refine bX.one (E:=dW) (c:=aB) (y:=aK yx.k) u.rds.list.rd (by rw[bl];simp[hH.len]) rfl (i:=i) (x:=yx.k) (by rw[QV,m];rfl) rfl ?_;refine yU u P G m b3 (by omega) (by omega) (by have:=hH.lK.len;have:=hH.hlen;omega) λF4 B4 al y4 bn L4 O r2 r3 r4 r5 r6 r7=>?_;by_cases ee:(yx.r.next s3).2.2.2.2=0
  ·refine aE (by rw[ee];rfl) ?_;rw[aD i (by omega)];exact J v _ B4 ⟨rfl,F4,_,al,_,L4,_,bn,O,hH.next v m ok r2 ee r3 r4,(b3.next (r:=yx.r) (by omega)).mono (by omega) (by omega)⟩
  ·obtain⟨d1,d2⟩:=hH.bad v m ee;unfold Bj at e;rw[if_pos (by rw[d2];exact ee),d1,d2] at e;exact aR (by simpa using ee) (e F4 B4 O.rds.aj O.rds.step)
 ·have bs:i=xs.length:=by
   have:¬(i:Int)<(l.n:Int):=by simpa using hc
   omega
  subst bs;have hd:=hH.done;unfold Bj at e;rw[hd] at e;simp only at e;rw[if_neg (by simp)] at e;have bA:=hH.count;have bx:ya H F p dp A' l kw B.size to (bT (h.map (·.r))+gH j+1) (x+2000002) (y+2000004) (gO (bT (h.map (·.r))+gH j+1) s3 (h.map (·.r)) j (xD to W)) (bT (h.map (·.r))+gH j+1) (Sl.mk none 0 0,true):=
   ⟨Z,F3,s3,h,xD to W,aY,aY,af,L3,j,u,hH.lK,by rw[hH.hlen,hH.len],by rw[hH.len];exact bh,Us _,rfl,by rw[Wx];exact ym to W0 a8,b3.mono (by omega) (by omega),QN _,rfl,λq=>absurd rfl q⟩
  exact EY P G R (by omega) (by omega) (by omega) bx e
end
end
section
open Go.MapKept
theorem zN:∀{L:List (List Int)} {s:Pl} {w:RW} {x y:Nat},Bd s x y->x+L.length<1000000000000->Bd (lM L s w).1 (x+L.length) (y+2*L.length)
 |[],s,w,x,y,h,_=>h
 |l::L,s,w,x,y,h,a=>by
   rw[Rr] at a ⊢;have h1:=h.add (w:=w) (by omega) l;simp only[lM];split
   ·exact h1.mono (by omega) (by omega)
   ·exact(zN (L:=L) h1 (by omega)).mono (by omega) (by omega)
section
variable {A0:aa}{F:Nat->Prop}{p dp:Nat}{s:Pl}{name:ByteArray}{W:Int}{l:Sl}{qs:List Qr}
set_option maxHeartbeats 1000000 in
theorem Ia {K:Int->aa->Prop}{x y:Nat}(hg:Gl A0)(hp:aA F A0 p dp s)(G:mc A0 l qs)(al:∀b,ai l b->¬F b)(O:∀q∈qs,∀b,ai q.1 b->¬F b)(hl:qs.length<=1000000)(P:name.size<=9223372036854775807)(b:Bd s x y)(hx:x<800000000000)(hy:y<50000000000)
  (c:∀F' B,aA F' B p dp (fu s name W (qs.map (·.2))).1->Step F F' A0 B->K (fu s name W (qs.map (·.2))).2 B):
  ID.sp (aK p) name W A0 λ(f:(Option hY×Int)) H8=>br (f.2!=(0:Int)) (K f.2 H8) (ay Int (0:Int) H8 λnext z H9=>br (decide (z<(l.n:Int))) (ae l.a λan=>(0<=z/\z<(l.n:Int))/\ld aq H9 (an.add (z.toNat*1)) λ(a1:Sl)=>AK.sp f.1 a1 H9 λ(e:Int) R=>br (e !=(0:Int)) (K e R) (next (QI.wrap (z+(1:Int))) R)) (GU.sp f.1 H9 λ(a6:(Int×Int)) a7=>K a6.2 a7)):=by
 have q1:=b.lo;have q2:=b.hi;have q3:=b.aH;have bM:=b.make (n:=name) (W:=W) (by omega);have bl:=hg.lt;have S:=hp.fi;unfold fu at c;refine yr hg hp P (by omega) (by omega) q1 b.fit (λF2 B p2 S2 I=>?_) (λF2 B kw w p2 S2 I w2 k1 k2=>?_)
 ·have e1:=iu.1 I;rw[I] at c;exact aR (by simpa using e1) (c F2 B p2 S2)
 obtain⟨e1,hw,W0,a8⟩:=iu.2 w I;subst hw;rw[I] at c;simp only at c;generalize (bo s name W).1=s1 at*;rw[e1];refine aE rfl ?_;have bn:l.n=qs.length:=aF.n G.out (by decide);have T:∀b,dH kw aY aY b->b=kw:=by
  rintro b (q|q|q)
  ·exact q
  ·exact absurd q (aU b)
  ·exact absurd q (aU b)
 refine av qs.length (λi z B=>z=(i:Int)/\∃F' s' w sw sl,aA F' B p dp s'/\qw B kw p w sw sl/\(∀b,F' b->¬dH kw sw sl b)/\(∀b,F' b\/dH kw sw sl b->F b\/A0.size<=b)/\Mod F A0 B/\Bd s' (x+1+i) (y+2+2*i)/\nh w name i/\
   lM (qs.map (·.2)) s1 (xD name W)=lM ((qs.map (·.2)).drop i) s' w) ⟨rfl,F2,s1,xD name W,aY,aY,p2,w2,λb J q=>k2 ((T b q)▸J),λb J=>?_,S2.mod,bM,ym name W0 a8,rfl⟩ ?_
 ·rcases J with q|q
  ·exact S2.own b q
  ·have:=T b q;exact .inr (by omega)
 rintro i z B next hi ⟨rfl,F',s',w,sw,sl,pB,wB,dB,N,t,v,D,j⟩ E
 have V:=hg.mod t S;have u1:=v.lo;have u2:=v.hi;have u3:=v.aH;have X:¬dH kw sw sl bt:=λq=>(N _ (.inr q)).elim S λr=>by omega
 have c1:=D.wait;have c2:=D.n;have c3:=D.rows;have Y:∀b,b<A0.size->¬F b->¬(F' b\/dH kw sw sl b):=λb J P q=>by
  rcases N b q with r|r
  ·exact P r
  ·omega
 refine ah (λhc=>?_) (λhc=>?_)
 ·have m:i<qs.length:=by
   have:(i:Int)<(l.n:Int):=by simpa using hc
   omega
  obtain⟨q,gq⟩:∃q,qs[i]?=some q:=⟨_,QK m⟩;have mq:=QL gq;have Z:mc B l qs:=⟨G.out.mod t al,λa ha=>(G.own a ha).mod t (O a ha),G.iY⟩;refine Z.get gq ?_;have hd:(qs.map (·.2)).drop i=q.2::(qs.map (·.2)).drop (i+1):=by
   rw[Rw (by simpa using m)];congr 1;rw[QK m] at gq;rw[List.getElem_map,Rc gq]
  rw[hd] at j;simp only[lM] at j;have bb:=v.add (w:=w) (by omega) q.2;have bd:=(D.add s' q.2).1;refine C1 V X wB pB dB (Z.ints mq) (λad ha r=>Y ad.block ((G.own q mq).lt _ ⟨ad,ha,rfl⟩) (O q mq _ ⟨ad,ha,rfl⟩) (.inr r)) (by have:=G.iY q mq;omega) (by omega) (by omega) (by omega) (by rw[D.name];exact P) (by omega) (by omega) u1 v.fit λF3 af M8 C p3 w3 d3 S3=>?_;have o3:∀b,F3 b\/dH kw af M8 b->F b\/A0.size<=b:=λb r=>by
   rcases S3.own b r with u|u
   ·exact N b u
   ·have:=t.size;exact .inr (by omega)
  have m3:Mod F A0 C:=t.trans' S3.mod λb J r=>(N b r).resolve_right (by omega);by_cases e0:(w.add s' q.2).2.2=0
  ·rw[if_neg (by rw[e0];simp)] at j;rw[e0];refine aE rfl ?_;rw[aD i (by omega)];exact E m _ C ⟨rfl,F3,_,_,af,M8,p3,w3,d3,o3,m3,bb.mono (by omega) (by omega),bd,j⟩
  ·rw[if_pos e0] at j;rw[j] at c;unfold wq at c;rw[if_pos e0] at c;exact aR (by simpa using e0) (c F3 C p3 ⟨m3,λb r=>o3 b (.inl r)⟩)
 ·have bh:i=qs.length:=by
   have:¬(i:Int)<(l.n:Int):=by simpa using hc
   omega
  subst bh;have hd:(qs.map (·.2)).drop qs.length=[]:=List.drop_of_length_le (by simp);rw[hd] at j;simp only[lM] at j;rw[j] at c;unfold wq at c;rw[if_neg (by simp)] at c;have o:=v.out (w:=w) (by omega);have o1:=o.hi;have I:=o.aH;refine wO V X wB pB dB (by omega) D.width.1 (by rw[D.name];exact P) (by omega) (by omega) u1 v.fit (by omega) (by omega) (λh hd=>?_) λF3 bs C p3 w3 d3 S3=>?_
  ·rw[Pl.C0,Pl.G8];have:=(w.out s').1.uM w.b.name 0;omega
  ·refine c F3 C p3 ⟨t.trans' S3.mod λb J r=>(N b r).resolve_right (by omega),λb r=>?_⟩;rcases S3.own b (.inl r) with u|u
   ·exact N b u
   ·have:=t.size;exact .inr (by omega)
end
end
section
variable {M:iX}{W:Nat}{p:Pl}{Q U:Nat}{to:ByteArray}{out:List (List Int)}{w:RW}{i:Nat}
theorem Cb:∀(l:List (List Int)) (a:List Int),(dd a l).length<=l.length
 |[],_=>QN _
 |b::l,a=>by
   simp only[dd];have h1:=Cb l a;have c:=Cb l b;split<;>simp only[Rr]<;>omega
theorem jg (l:List (List Int)):(cG (eN l)).length<=l.length:=by
 have h:=(nD l).length_eq;cases e:eN l with
 |nil=>exact Q5 _
 |cons a t=>
   rw[e] at h;simp only[cG,Rr] at h ⊢;have:=Cb t a;omega
end
section
variable {M:iX}{W:Nat}{p:Pl}{Q U:Nat}{to:ByteArray}{out:List (List Int)}
end
theorem eL (n:ByteArray)(i:Nat):(bL n i).size=n.size+1+(lR i).size:=by
 unfold bL;rw[Tk,Tk];rfl
section
open Go.MapKept
def iM (p:Nat)(t:So)(sw ss:Sl):Array gp:=#[.pointer (aK p),.string t.name,.int .i64 t.width,.int .i64 t.ag,sw.v,ss.v,.int .i64 (t.next:Int),.int .i64 t.wrong,.bool t.closed]
structure K6 (H:aa)(k p:Nat)(t:So)(sw:Sl)(rs:List Sl)(ss:Sl):Prop where
 row:ao H k xE (iM p t sw ss)
 wait:aJ H 0 sw rs t.wait
 names:bX kz H ss.a t.side
 n:ss.n=t.side.length/\ss.n<=ss.c
 iY:∀l∈t.wait,l.length<=16
structure rK (H:aa)(k p:Nat)(t:So)(sw:Sl)(rs:List Sl)(ss:Sl):Prop where
 rd:K6 H k p t sw rs ss
 side:aF kz dG H ss t.side
def cc (k:Nat)(sw:Sl)(rs:List Sl)(ss:Sl)(b:Nat):Prop:=b=k\/ai sw b\/(∃x∈rs,ai x b)\/ai ss b
structure xq (t:So):Prop where
 name:t.name.size<=1000000
 wait:t.wait.length<=400000
 side:t.side.length<=1000
 sizes:∀n∈t.side,n.size<=9223372036854775807
 next:t.next<100
 ag:0<=t.ag/\t.ag<=1000000
section
variable {H:aa}{k p dp:Nat}{t:So}{sw ss:Sl}{rs:List Sl}{F:Nat->Prop}{s:Pl}
theorem rK.mk' (row:ao H k xE (iM p t sw ss))(wait:aJ H 0 sw rs t.wait)(side:aF kz dG H ss t.side)(iY:∀l∈t.wait,l.length<=16):rK H k p t sw rs ss:=
 ⟨⟨row,wait,side.rd,⟨aF.n side (by decide),aO.cap side⟩,iY⟩,side⟩
theorem K6.j9 (h:K6 H k p t sw rs ss):¬ai sw k:=λq=>by
 obtain⟨cur,a⟩:=h.wait.out.obj k q;exact absurd (aM a h.row) (by decide)
theorem K6.jS (h:K6 H k p t sw rs ss):∀x∈rs,¬ai x k:=λx a q=>by
 obtain⟨l,hl⟩:=h.wait.rowAt a;obtain⟨cur,c⟩:=hl.obj k q;exact absurd (aM c h.row) (by decide)
theorem rK.oX (h:rK H k p t sw rs ss):¬ai ss k:=λq=>by
 obtain⟨cur,a⟩:=h.side.obj k q;exact absurd (aM a h.rd.row) (by decide)
theorem rK.lt (h:rK H k p t sw rs ss):∀b,cc k sw rs ss b->b<H.size:=by
 rintro b (q|q|⟨x,a,q⟩|q)
 ·subst q;exact aI h.rd.row
 ·exact(h.rd.wait.block.1 b q).2
 ·exact(h.rd.wait.block.2 x a b q).2
 ·exact h.side.lt b q
theorem rK.mod {G:Nat->Prop}{H':aa}(h:rK H k p t sw rs ss)(m:Mod G H H')(c:∀b,cc k sw rs ss b->¬G b):rK H' k p t sw rs ss:=
 .mk' (h.rd.row.mod m (c k (.inl rfl))) (h.rd.wait.mod m (λb a=>c b (.inr (.inl a))) λx e b a=>c b (.inr (.inr (.inl ⟨x,e,a⟩)))) (h.side.mod m λb a=>c b (.inr (.inr (.inr a)))) h.rd.iY
theorem kU {K:Int->aa->Prop}(h:ao H k xE (iM p t sw ss))(a:K t.ready H):FF.sp (aK k) H K:=by
 refine FF.of ?_;unfold FF.vc;unfold So.ready at a;unfold aK;simp only[aw];refine aE rfl ?_;refine h.ld (c:=ab .i64) (i:=7) (x:=t.wrong) rfl ?_;refine ah (λf=>?_) (λf=>?_)
 ·refine h.ld (c:=ab .i64) (i:=7) (x:=t.wrong) rfl ?_;rw[if_pos (by simpa using f)] at a;exact a
 ·rw[if_neg (by simpa using f)] at a;refine h.ld (c:=aC) (i:=8) (x:=t.closed) rfl ?_;cases e:t.closed with
  |true=>rw[e,if_pos rfl] at a;exact a
  |false=>rw[e,if_neg (by simp)] at a;exact a
theorem cU {n:Nat}(h:n<100):(lR n).size<=2:=(FM n h).2
theorem sF {K:ByteArray->aa->Prop}(h:ao H k xE (iM p t sw ss))(f:t.next<100)(hs:t.name.size<=1000000)
  (j:∀H',ao H' k xE (iM p (t.to (t.next+1)) sw ss)->Mod (λb=>b=k) H H'->H'.size=H.size->K (bL t.name t.next) H'):JP.sp (aK k) H K:=by
 refine JP.of ?_;unfold JP.vc;unfold aK;simp only[aw];refine h.ld (c:=ab .i64) (i:=6) (x:=(t.next:Int)) rfl ?_;rw[aD t.next (by omega)];refine ao.st h (i:=6) (by simp[iM]) rfl λH1 m m1 o=>?_;have a:ao H1 k xE (iM p (t.to (t.next+1)) sw ss):=m;have h1:JZ.size=1:=rfl;refine⟨λA=>ao A k xE (iM p (t.to (t.next+1)) sw ss),a,?_⟩;refine ao.dE (c:=aN) (i:=1) (x:=t.name) (cs:=λ_=>_) (λ_ q=>q) (λ_ _=>rfl) ?_;have u:t.name.size+(ByteArray.mk #[126]).size<=1000001:=by show t.name.size+1<=_;omega
 refine⟨by omega,?_⟩;refine a.ld (c:=ab .i64) (i:=6) (x:=((t.next+1:Nat):Int)) rfl ?_;have e:QI.wrap (((t.next+1:Nat):Int) - 1)=(t.next:Int):=by rw[wrap64 (by omega) (by omega)];omega
 rw[e];refine Kl f ⟨a,?_,j H1 a m1 o⟩;have:=cU f;rw[Tk];omega
set_option maxHeartbeats 1000000 in
theorem yE {K:Int->aa->Prop}{x y:Nat}(hg:Gl H)(al:¬cc k sw rs ss bt)(h:rK H k p t sw rs ss)(hp:aA F H p dp s)(dis:∀b,F b->¬cc k sw rs ss b)(J:xq t)(b:Bd s x y)(o:x<800000000000)(hy:y<50000000000)
  (hK:∀F' f H',aA F' H' p dp (t.aside s).1->rK H' k p (t.aside s).2.1 aY [] f->(∀b,F' b->¬cc k aY [] f b)->Step (λb=>F b\/cc k sw rs ss b) (λb=>F' b\/cc k aY [] f b) H H'->K (t.aside s).2.2 H'):Ic.sp (aK k) H K:=by
 refine Ic.of ?_;unfold Ic.vc;unfold aK;simp only[aw];have an:=h.rd.wait.qr h.rd.iY;obtain⟨z1,z2⟩:=xv h.rd.wait.len;have bd:(rs.zip t.wait).length<=400000:=by
  have:=congrArg VL z2;rw[Rg] at this;have:=J.wait;omega
 have N:∀q∈rs.zip t.wait,∀b,ai q.1 b->∃x∈rs,ai x b:=λq O b e=>⟨q.1,by rw[<-z1];exact QW.2 ⟨q,O,rfl⟩,e⟩;have j:=h.rd.j9;have m:=h.oX;have hk:=aI h.rd.row;refine h.rd.row.ld (c:=aq) (i:=4) (x:=sw) rfl ?_;refine Aq an (by omega) λz A hP V hA mA=>?_;have rA:=h.rd.row.mod mA j;refine rA.ld (c:=aq) (i:=4) (x:=sw) rfl ?_;have bh:=hP.length_eq;refine BE hA (by omega) λn B hn hB mB=>?_;have G:Mod (ai sw) H B:=mA.trans mB;have rB:=h.rd.row.mod G j;refine sF rB J.next J.name λC rC mC zC=>?_;have P:∀b,ai ss b->¬ai sw b:=λb e=>h.side.apart h.rd.wait.out (by decide) b e;have sC:aF kz dG C ss t.side:=(h.side.mod G P).mod mC λb e q=>m (q▸e);refine rC.ld (c:=aq) (i:=5) (x:=ss) rfl ?_;refine aF.push (E:=kz) (x:=bL t.name t.next) BG sC rfl (by have:=J.side;omega) (by have:=J.side;omega) λf D oD X _=>?_;have bl:=G.size;have I:¬ai f k:=λq=>by
  rcases X.2 k q with r|r
  ·exact m r
  ·omega
 have rD:=rC.mod X.1 m;refine ao.st rD (i:=4) (by simp[iM]) rfl λD1 r1 m1 bn=>?_;refine ao.st r1 (i:=5) (by simp[iM]) rfl λv r2 m2 bs=>?_;have m12:Mod (λq=>q=k) D v:=m1.trans m2;have Y:ao v k xE (iM p t.gV aY f):=r2;have o2:aF kz dG v f (t.side++[bL t.name t.next]):=oD.mod m12 λb e q=>I (q▸e);refine Y.ld (c:=aB) (i:=0) (x:=aK p) rfl ?_;refine Y.ld (c:=ab .i64) (i:=2) (x:=t.width) rfl ?_
 -- what was written so far
 have bx:=X.1.size;have bA:=m12.size;have mH:Mod (cc k sw rs ss) H v:=by
  have a1:Mod (cc k sw rs ss) H C:=(G.mono λb _ q=>.inr (.inl q)).trans' mC λb _ q=>.inl q;have a2:Mod (cc k sw rs ss) H D:=a1.trans' X.1 λb _ q=>.inr (.inr (.inr q));exact a2.trans' m12 λb _ q=>.inl q
 have pD:aA F v p dp s:=hp.ar λb e hl=>mH.same b hl (dis b e);have a6:Gl v:=hg.mod mH al;have lB:∀b,ai (⟨sw.a,n,sw.c⟩:Sl) b->ai sw b:=λb e=>e;have R:∀q∈iq z,q∈rs.zip t.wait:=λq O=>hP.mem_iff.1 (wG O);have a7:∀b,ai sw b->b<H.size:=λb e=>(h.rd.wait.block.1 b e).2;have Z:mc v ⟨sw.a,n,sw.c⟩ (iq z):=by
  have u:∀b,b<H.size->¬ai ss b->b≠k->v[b]?=B[b]?:=λb e n1 n2=>by
   have a1:=mC.same b (by omega) n2;have a2:=X.1.same b (by omega) n1;have a3:=m12.same b (by omega) n2;rw[a3,a2,a1]
  refine⟨hB.out.ar λb e _=>u b (a7 b e) (λq=>P b q e) λq=>j (q▸e),λq O=>(hB.own q O).ar λb e _=>?_,hB.iY⟩;obtain⟨x,o,af⟩:=N q (R q O) b e;obtain⟨l,hl⟩:=h.rd.wait.rowAt o;exact u b ((h.rd.wait.block.2 x o b af).2) (λq=>h.side.apart hl (by decide) b q af) λq=>h.rd.jS x o (q▸af)
 have S:(iq z).map (·.2)=cG (eN t.wait):=by rw[Eb,V,z2]
 have bB:(iq z).length<=400000:=by
  have a:=jg t.wait;have c:=congrArg VL S;rw[Rg] at c;have:=J.wait;omega
 unfold So.aside at hK;rw[<-S] at hK;refine Ia a6 pD Z (λb e q=>dis b q (.inr (.inl e))) (λq O b e r=>dis b r (.inr (.inr (.inl (N q (R q O) b e))))) (by omega) (by have:=cU J.next;have:=J.name;rw[eL];omega) b o hy λF' E pE SE=>?_;have T:∀b,cc k aY [] f b->¬F b:=by
  rintro b (q|q|⟨x,o,_⟩|q) e
  ·exact dis b e (.inl q)
  ·exact absurd q (aU b)
  ·cases o
  ·rcases X.2 b q with r|r
   ·exact dis b e (.inr (.inr (.inr r)))
   ·have:=hp.lt b e;omega
 have a8:∀b,cc k aY [] f b->b<v.size:=by
  rintro b (q|q|⟨x,o,_⟩|q)
  ·omega
  ·exact absurd q (aU b)
  ·cases o
  ·exact o2.lt b q
 have bb:rK v k p t.gV aY [] f:=.mk' Y (aJ.nil _ _) o2 λl hl=>(by cases hl);refine hK F' f E pE (bb.mod SE.mod T) (λb e q=>?_) ⟨(mH.mono λb _ q=>.inr q).trans' SE.mod λb _ q=>.inl q,λb e=>?_⟩
 ·rcases SE.own b e with r|r
  ·exact T b q r
  ·have:=a8 b q;omega
 ·rcases e with q|q|q|⟨x,o,_⟩|q
  ·rcases SE.own b q with r|r
   ·exact .inl (.inl r)
   ·exact .inr (by omega)
  ·exact .inl (.inr (.inl q))
  ·exact absurd q (aU b)
  ·cases o
  ·rcases X.2 b q with r|r
   ·exact .inl (.inr (.inr (.inr (.inr r))))
   ·exact .inr (by omega)
end
end
theorem vY:∀{rs:List RR} {s:Pl} {x y:Nat},Bd s x y->x+rs.length<1000000000000->Bd (bp rs s).1 (x+rs.length) (y+rs.length)
 |[],s,x,y,h,_=>h
 |r::rs,s,x,y,h,a=>by
   rw[Rr] at a ⊢;have h1:=h.next (r:=r) (by omega);simp only[bp];split
   ·exact h1.mono (by omega) (by omega)
   ·exact(vY (rs:=rs) h1 (by omega)).mono (by omega) (by omega)
theorem Ie {s:Pl}{w:RW}{l:List Int}{x y:Nat}(h:Bd s x y)(a:x<1000000000000):Bd (aV s w l).1 (x+1) (y+2):=by
 unfold aV;split
 ·exact h.add a l
 ·exact h.mono (by omega) (by omega)
theorem wj:∀(f:Nat) {s:Pl} {rs:List RR} {hs:List (Option (List Int))} {w:RW} {x y:Nat},Bd s x y->x+2*f<999999999990->(gO f s rs hs w).1.fs.length<=4096->Bd (gO f s rs hs w).1 (x+2*f+2) (y+3*f+4200)
 |0,s,rs,hs,w,x,y,h,_,_=>h.mono (by omega) (by omega)
 |f+1,s,rs,hs,w,x,y,h,m,hw=>by
   unfold gO at hw ⊢;split at hw
   ·exact(h.close (by omega) hw).mono (by omega) (by omega)
   ·rename_i i l e;have h1:=Ie (w:=w) (l:=l) h (by omega);split at hw
    ·rename_i a;rw[if_pos a];exact h1.mono (by omega) (by omega)
    ·rename_i a;rw[if_neg a];have j:=h1.next (r:=rs.getD i default) (by omega);split at hw
     ·rename_i c;rw[if_pos c];exact j.mono (by omega) (by omega)
     ·rename_i c;rw[if_neg c];exact(wj f j (by omega) hw).mono (by omega) (by omega)
theorem we {W:Int}:∀{ns:List ByteArray} {s:Pl},(bc W ns s).2.1.length<=ns.length
 |[],s=>QN _
 |n::ns,s=>by
   simp only[bc];split
   ·exact Q5 _
   ·simp only[Rr];have:=we (W:=W) (ns:=ns) (s:=(rnOpen s n W).1);omega
theorem kW:∀{rs:List RR} {s:Pl},(∀r∈rs,r.Ok)->bT (bp rs s).2.1+gH (bp rs s).2.2.1<=bT rs
 |[],s,_=>QN _
 |r::rs,s,h=>by
   simp only[bp];split
   ·exact Q5 _
   ·have a:=RR.kY (h r Q9) s;have b:=kW (rs:=rs) (s:=(r.next s).1) λx c=>h x (Q8 _ c);simp only[bT,gH,Q7,RS] at b ⊢;omega
theorem Am {W:Int}:∀{ns:List ByteArray} {s:Pl},∀r∈(bc W ns s).2.1,r.Ok
 |[],s,r,h=>by cases h
 |n::ns,s,r,h=>by
   simp only[bc] at h;split at h
   ·cases h
   ·rename_i q e;rcases QX.1 h with u|u
    ·subst u;exact(jU e).1
    ·exact Am (ns:=ns) r u
theorem nE {s:Pl}{ns:List ByteArray}{to:ByteArray}{W:Int}{x y N:Nat}(h:Bd s x y)(hl:ns.length<=1000)(m:x+2*N<900000000000)(o:bT (bc W ns s).2.1<=N)(hw:(cV s ns to W).1.fs.length<=4096):Bd (cV s ns to W).1 (x+2*N+3000) (y+3*N+9000):=by
 unfold cV at hw ⊢;split at hw
 ·rename_i e;rw[if_pos e];exact h.mono (by omega) (by omega)
 ·rename_i e;rw[if_neg e];have h1:=tt (ns:=ns) (W:=W) h (by omega);split at hw
  ·rename_i a;rw[if_pos a];exact h1.mono (by omega) (by omega)
  ·rename_i a;rw[if_neg a];have f:=h1.make (n:=to) (W:=W) (by omega);unfold mU at hw ⊢;split at hw
   ·exact f.mono (by omega) (by omega)
   ·rename_i w q;have u:=we (W:=W) (ns:=ns) (s:=s);have j:=vY (rs:=(bc W ns s).2.1) f (by omega);have v:=kW (s:=(bo (bc W ns s).1 to W).1) (Am (W:=W) (ns:=ns) (s:=s));unfold Bj at hw ⊢;split at hw
    ·rename_i c;rw[if_pos c];exact j.mono (by omega) (by omega)
    ·rename_i c;rw[if_neg c];exact(wj _ j (by omega) hw).mono (by omega) (by omega)
theorem Ar:∀{l:List ByteArray} {s:Pl} {x y:Nat},Bd s x y->Bd (jF l s).1 x y
 |[],s,x,y,h=>h
 |n::l,s,x,y,h=>by
   simp only[jF];split
   ·exact h.c9
   ·exact Ar h.c9
theorem tT {s:Pl}{n:ByteArray}{W:Int}{L:List (List Int)}{x y:Nat}(h:Bd s x y)(f:x+L.length<900000000000)(hw:(fu s n W L).1.fs.length<=4096):Bd (fu s n W L).1 (x+L.length+10) (y+2*L.length+5000):=by
 have h1:=h.make (n:=n) (W:=W) (by omega);unfold fu at hw ⊢;split at hw
 ·exact h1.mono (by omega) (by omega)
 ·rename_i w e;have c:=zN (L:=L) (w:=w) h1 (by omega);unfold wq at hw ⊢;split at hw
  ·rename_i a;rw[if_pos a];exact c.mono (by omega) (by omega)
  ·rename_i a;rw[if_neg a];exact(c.close (by omega) hw).mono (by omega) (by omega)
section
open Go.MapKept
section
variable {H:aa}{k p dp:Nat}{t:So}{sw ss:Sl}{rs:List Sl}{F:Nat->Prop}{s:Pl}
theorem aA.ag (h:aA F H p dp s):s.fs.length<=4096:=QZ h.wf.len h.wf.most.2
theorem Cx {n:ByteArray}{W fr:Int}{K:(Option hY×Int)->aa->Prop}(a:K (none,1) H):zg.sp none n W fr H K:=by
 refine zg.of ?_;unfold zg.vc;exact aR rfl a
theorem mO {n:ByteArray}{W fr:Int}{K:(Option hY×Int)->aa->Prop}(m:aA F H p dp s)
  (a:(eY s n W fr).1=none->K (none,(eY s n W fr).2) H) (e:(eY s n W fr).1=some (qJ n W fr)->(eY s n W fr).2=0->∀H',Ext H H'->rK H' H.size p (qJ n W fr) aY [] aY->K (aK H.size,0) H'):zg.sp (aK p) n W fr H K:=by
 refine zg.of ?_;unfold zg.vc;unfold eY at a e;have made:aL W≠0->¬(fr<3\/fr>s.most)->aG H #[.pointer (aK p),.string n,.int .i64 W,.int .i64 fr,.slice none 0 0,.slice none 0 0,.int .i64 (0:Int),.int .i64 (0:Int),.bool false] xE λh o=>K (some h,(0:Int)) o:=λh1 f=>by
  rw[if_neg h1,if_neg f] at e;refine au λH1 z u v=>?_;exact e rfl rfl H1 v (.mk' u (aJ.nil _ _) (aF.nil _ _ _) λl hl=>(by cases hl))
 refine aE rfl ?_;refine oZ ?_;refine ah (λc=>?_) (λc=>?_)
 ·have h1:aL W=0:=by simpa using c
  rw[if_pos h1] at a;exact a rfl
 have h1:aL W≠0:=by simpa using c
 rw[if_neg h1] at a;refine ah (λc=>?_) (λc=>?_)
 ·have f:fr<3:=by simpa using c
  rw[if_pos (.inl f)] at a;exact aR c (a rfl)
 have f:¬fr<3:=by simpa using c
 refine Fb m ?_;refine ah (λc=>?_) (λc=>?_)
 ·have j:fr>s.most:=by simpa using c
  rw[if_pos (.inr j)] at a;exact a rfl
 have j:¬fr>s.most:=by simpa using c
 exact made h1 λq=>q.elim f j
set_option maxHeartbeats 1000000 in
theorem Ku {K:Int->aa->Prop}{l:Sl}{ll:List Int}{x y:Nat}(hg:Gl H)(Y:¬cc k sw rs ss bt)(h:rK H k p t sw rs ss)(hp:aA F H p dp s)(dis:∀b,F b->¬cc k sw rs ss b)(X:xq t)(bb:t.wait.length<400000)(hW:t.width<=16)(hl:Ints .u64 H l ll)(b:Bd s x y)(j:x<800000000000)(hy:y<50000000000)
  (m:∀F' P R S H',aA F' H' p dp (t.add s ll).1->rK H' k p (t.add s ll).2.1 P R S->(∀b,F' b->¬cc k P R S b)->Step (λb=>F b\/cc k sw rs ss b) (λb=>F' b\/cc k P R S b) H H'->K (t.add s ll).2.2 H'):so.sp (aK k) l H K:=by
 refine so.of ?_;unfold so.vc;unfold So.add at m;refine kU h.rd.row ?_;unfold aK;simp only[aw];refine ah (λo=>?_) (λo=>?_)
 ·rw[if_pos (by simpa using o)] at m;exact m F sw rs ss H hp h dis (.refl _ _)
 rw[if_neg (by simpa using o)] at m;refine h.rd.row.ld (c:=ab .i64) (i:=2) (x:=t.width) rfl ?_;have Z:=hl.len;refine ah (λo=>?_) (λo=>?_)
 ·have e1:(ll.length:Int)≠t.width:=by rw[<-Z];simpa using o
  rw[if_pos e1] at m;exact m F sw rs ss H hp h dis (.refl _ _)
 have e1:¬(ll.length:Int)≠t.width:=by rw[<-Z];simpa using o
 rw[if_neg e1] at m;have al:ll.length<=16:=by omega
 refine⟨λA=>ao A k xE (iM p t sw ss),h.rd.row,?_⟩;refine ao.dE (c:=aq) (i:=4) (x:=sw) (cs:=λ_=>_) (λ_ q=>q) (λ_ _=>rfl) ?_;refine qC hl (by omega) λr A oA eA fA=>?_;have G:=h.mod eA λ_ _=>id;have hk:=aI h.rd.row;refine⟨G.rd.row,?_⟩;have bd:=h.rd.wait.n;show ao (A.push _) k _ _/\_;refine⟨G.rd.row.ext (Mod.push _ _ _),aJ.Dn (base:=0) G.rd.wait oA (λx j b a an=>?_) (by omega) (Q5 _) λs' B n1 o1 m1 g1=>?_⟩
 ·have:=fA b a;have:=(h.rd.wait.block.2 x j b an).2;omega
 have v:=G.rd.j9;have zA:=eA.size;have I:¬ai s' k:=λq=>by
  rcases g1 k q with r|r
  ·exact v r
  ·omega
 refine ao.st (G.rd.row.mod m1 v) (i:=4) (by simp[iM]) rfl λC rC mC zC=>?_;obtain⟨t1,e⟩:∃t1:So,t1={t with wait:=t.wait++[ll]}:=⟨_,rfl⟩;rw[<-e] at m;have J:ao C k xE (iM p t1 s' ss):=by rw[e];exact rC
 have jd:∀x∈rs++[r],¬ai x k:=λx j q=>by
  rcases QQ.1 j with u|u
  ·exact G.rd.jS x u q
  ·rw[Q1] at u;subst u;have:=fA k q;omega
 have hC:rK C k p t1 s' (rs++[r]) ss:=by
  refine .mk' J ?_ ?_ ?_
  ·rw[e];exact o1.mod mC (λb a q=>I (q▸a)) λx j b a q=>jd x j (q▸a)
  ·rw[e];exact(G.side.mod m1 λb a q=>G.side.apart G.rd.wait.out (by decide) b a q).mod mC λb a q=>G.oX (q▸a)
  ·rw[e];intro x j;rcases QQ.1 j with u|u
   ·exact h.rd.iY x u
   ·rw[Q1] at u;subst u;exact al
 have z1:=m1.size;have z:Mod (λb=>b=k\/ai sw b) H C:=((Ext.mod eA).trans' m1 λb _ q=>.inr q).trans' mC λb _ q=>.inl q;have f:∀b,cc k s' (rs++[r]) ss b->cc k sw rs ss b\/H.size<=b:=by
  rintro b (q|q|⟨x,j,q⟩|q)
  ·exact .inl (.inl q)
  ·rcases g1 b q with u|u
   ·exact .inl (.inr (.inl u))
   ·exact .inr (by omega)
  ·rcases QQ.1 j with u|u
   ·exact .inl (.inr (.inr (.inl ⟨x,u,q⟩)))
   ·rw[Q1] at u;subst u;exact .inr (fA b q)
  ·exact .inl (.inr (.inr (.inr q)))
 have O:∀b,F b->¬cc k s' (rs++[r]) ss b:=λb a q=>by
  rcases f b q with u|u
  ·exact dis b a u
  ·have:=hp.lt b a;omega
 have pC:aA F C p dp s:=hp.ar λb a T=>z.same b T λq=>dis b a (q.imp_right .inl);refine⟨λA=>ao A k xE (iM p t1 s' ss),J,?_⟩;refine ao.dE (c:=aq) (i:=4) (x:=s') (cs:=λ_=>_) (λ_ q=>q) (λ_ _=>rfl) ?_;refine ao.dE (c:=ab .i64) (i:=3) (x:=t.ag) (cs:=λ_=>_) (λ_ q=>q) (λ_ _=>by rw[e];rfl) ?_;refine J.ld (c:=ab .i64) (i:=2) (x:=t.width) (by rw[e];rfl) ?_;refine oZ ⟨J,?_⟩;obtain⟨a6,bh⟩:=de ⟨t.name,t.width,0,false⟩;simp only at a6;have hf:=X.ag;have p1:t.ag*aL t.width<=1000000*504:=Int.mul_le_mul hf.2 (by omega) (by omega) (by decide);have p0:0<=t.ag*aL t.width:=Int.mul_nonneg hf.1 (by omega);rw[wrap64 (by omega) (by omega)];have zH:=z.size;refine ah (λo=>?_) (λo=>?_)
 ·have e2:((t.wait.length+1:Nat):Int)<t.ag*aL t.width:=by
   have:(s'.n:Int)<t.ag*aL t.width:=by simpa using o
   omega
  rw[if_pos e2] at m;refine m F s' (rs++[r]) ss C pC hC O ⟨z.mono λb _ q=>.inr (q.imp_right .inl),λb a=>?_⟩;rcases a with u|u
  ·exact .inl (.inl u)
  ·exact(f b u).imp .inr id
 ·have e2:¬((t.wait.length+1:Nat):Int)<t.ag*aL t.width:=by
   have:¬(s'.n:Int)<t.ag*aL t.width:=by simpa using o
   omega
  rw[if_neg e2] at m;have a7:xq t1:=by rw[e];exact⟨X.name,by simp;omega,X.side,X.sizes,X.next,X.ag⟩
  have gC:Gl C:=hg.mod z λq=>Y (q.imp_right .inl);refine yE gC (λq=>(f _ q).elim Y λu=>by have:=hg.lt;omega) hC pC O a7 b j hy λF2 N D pD hD dD SD=>?_;have a8:∀b,cc k aY [] N b->¬b=k->ai N b:=by
   rintro b (q|q|⟨x,j,_⟩|q) hn
   ·exact absurd q hn
   ·exact absurd q (aU b)
   ·cases j
   ·exact q
  refine ao.st hD.rd.row (i:=7) (by simp[iM]) rfl λE rE mE zE=>?_;have af:ao E k xE (iM p {t1.gV with wrong:=(t1.aside s).2.2} aY N):=rE;refine af.ld (c:=ab .i64) (i:=7) (x:=(t1.aside s).2.2) rfl ?_;have V:=hD.oX;refine m F2 aY [] N E (pD.ar λb a T=>mE.same b T λq=>dD b a (.inl q)) (.mk' af (aJ.nil _ _) (hD.side.mod mE λb a q=>V (q▸a)) λl hl=>(by cases hl)) dD ⟨?_,λb a=>?_⟩
  ·have a1:Mod (λb=>F b\/cc k sw rs ss b) H D:=(z.mono λb _ q=>.inr (q.imp_right .inl)).trans' SD.mod λb a q=>q.imp_right λu=>(f b u).resolve_right (by omega);exact a1.trans' mE λb _ q=>.inr (.inl q)
  ·rcases SD.own b a with (u|u)|u
   ·exact .inl (.inl u)
   ·exact(f b u).imp .inr id
   ·exact .inr (by omega)
end
end
section
open Go.MapKept
def wu (a b:List Int):Prop:=aX a b<0
theorem xW (a:List Int):¬wu a a:=by unfold wu;rw[gN];omega
theorem nJ {a b c:List Int}(h:wu a b)(k:wu b c):wu a c:=fF h k
theorem JI (a b:List Int):wu a b\/a=b\/wu b a:=by
 rcases BF a b with q|q|q
 ·exact .inl (by unfold wu;omega)
 ·exact .inr (.inl (cr.1 q))
 ·exact .inr (.inr (KS.1 (by omega)))
def Aj (L:List (List Int)):Prop:=L.Pairwise wu
theorem Hd {L:List (List Int)}(h:Aj L)(k:Nat):Aj (L.take k):=h.sublist (YZ k L)
theorem Hz {L:List (List Int)}(h:Aj L)(k:Nat):Aj (L.drop k):=h.sublist (Y0 k L)
theorem xu:∀{A B:List (List Int)},Aj A->Aj B->(∀y,y∈A↔y∈B)->A=B:=λ{A B} c f h=>by
 have j:∀{L:List (List Int)},Aj L->L.Nodup:=λ{L} h=>acx (λ{a b} h e=>by subst e;exact xW _ h) h;exact((SU (j c) (j f)).2 h).eq_of_pairwise (le:=wu) (λa b _ _ h1 m=>absurd (nJ h1 m) (xW a)) c f
structure fq (X:Nat->Prop)(A:aa)(s:Sl)(ls:List (List Int)):Prop where
 ex:∃rs:List Sl,aO A 0 dv 1 s (rs.map Sl.v)/\rs.length=ls.length/\∀(j:Nat) (r:Sl) (l:List Int),rs[j]?=some r->ls[j]?=some l->Ints .u64 A r l/\∀ad,r.a=some ad->ad.block<A.size/\¬X ad.block/\¬ai s ad.block
 off:∀b,ai s b->¬X b
section
variable {X X':Nat->Prop}{A B:aa}{s s':Sl}{ls:List (List Int)}{l:List Int}{r:Sl}
theorem fq.nil (X:Nat->Prop)(A:aa):fq X A (Sl.mk none 0 0) []:=⟨⟨[],aO.nil _ _ _ _,rfl,λj r l a=>by simp at a⟩,λb u=>by obtain⟨ad,h,_⟩:=u;cases h⟩
theorem fq.n (h:fq X A s ls):s.n=ls.length:=by
 obtain⟨rs,o,hl,_⟩:=h.ex;have:=o.1;rw[Rg] at this;omega
theorem fq.step (h:fq X A s ls)(S:Step X X' A B):fq X' B s ls:=by
 obtain⟨rs,o,hl,m⟩:=h.ex;refine⟨⟨rs,o.mod S.mod h.off,hl,λj r l q a=>?_⟩,λb e u=>?_⟩
 ·obtain⟨z,f⟩:=m j r l q a;refine⟨z.mod S.mod λad c=>(f ad c).2.1,λad c=>?_⟩;obtain⟨C,D,E⟩:=f ad c;exact⟨Nat.lt_of_lt_of_le C S.mod.size,λv=>(S.own _ v).elim D λw=>by omega,E⟩
 ·exact(S.own b u).elim (h.off b e) λw=>by have:=(o.block b e).2;omega
theorem fq.lt (h:fq X A s ls):∀b,ai s b->b<A.size:=λb a=>by
 obtain⟨rs,o,_,_⟩:=h.ex;exact(o.block b a).2
theorem fq.rows (h:fq X A s ls):Rows A s ls:=by
 obtain⟨rs,o,hl,c⟩:=h.ex;refine⟨h.n,λi hi=>?_⟩;have a:i<rs.length:=by omega
 obtain⟨ad,e,f⟩:=o.reads.at (i:=i) (by rw[Rg];exact a);exact⟨ad,rs[i],e,by simpa using f,(c i rs[i] ls[i] (QK a) (QK hi)).1⟩
end
structure Below (ls:List (List Int))(x:List Int)(k:Nat):Prop where
 le:k<=ls.length
 lo:∀j (h:j<ls.length),j<k->wu ls[j] x
 hi:∀j (h:j<ls.length),k<=j->¬wu ls[j] x
theorem BA {ls:List (List Int)}(h:Aj ls){i j:Nat}(hi:i<ls.length)(c:j<ls.length)(a:i<j):wu ls[i] ls[j]:=SJ.1 h i j hi c a
theorem Below.mem {ls:List (List Int)}{x:List Int}{k:Nat}(h:Below ls x k)(f:Aj ls):x∈ls↔∃hk:k<ls.length,ls[k]=x:=by
 constructor
 ·intro m;obtain⟨j,a,e⟩:=Wj.1 m;rcases Ua j k with q|q|q
  ·have:=h.lo j a q;rw[e] at this;exact absurd this (xW _)
  ·subst q;exact⟨a,e⟩
  ·have h1:=h.hi k (by omega) (QN _);have c:=BA f (by omega) a q;rw[e] at c;exact absurd c h1
 ·rintro⟨hk,rfl⟩;exact Re hk
theorem Below.ins {ls:List (List Int)}{x:List Int}{k:Nat}(h:Below ls x k)(m:Aj ls)(o:x∉ls):Aj (ls.take k++x::ls.drop k)/\∀y,y∈ls.take k++x::ls.drop k↔y=x\/y∈ls:=by
 have lo:∀y∈ls.take k,wu y x:=λy c=>by
  obtain⟨j,f,rfl⟩:=Wj.1 c;rw[Ro] at f;rw[XN];exact h.lo j (by omega) (by omega)
 have hi:∀y∈ls.drop k,wu x y:=λy c=>by
  obtain⟨j,f,rfl⟩:=Wj.1 c;rw[RM] at f;rw[List.getElem_drop];rcases JI x ls[k+j] with q|q|q
  ·exact q
  ·exact absurd (q▸Re _) o
  ·exact absurd q (h.hi (k+j) (by omega) (by omega))
 refine⟨WZ.2 ⟨Hd m k,R0.2 ⟨hi,Hz m k⟩,λa h1 b z=>?_⟩,λy=>?_⟩
 ·rcases QX.1 z with e|e
  ·rw[e];exact lo a h1
  ·exact nJ (lo a h1) (hi b e)
 ·rw[QQ,QX];constructor
  ·rintro(u|u|u)
   ·exact .inr (RU u)
   ·exact .inl u
   ·exact .inr (List.mem_of_mem_drop u)
  ·rintro(u|u)
   ·exact .inr (.inl u)
   ·rw[<-Tj k ls] at u;rcases QQ.1 u with v|v
    ·exact .inl v
    ·exact .inr (.inr v)
section
variable {X:Nat->Prop}{A:aa}{l s x:Sl}{ls:List (List Int)}{lx:List Int}
theorem HI {K:Int->aa->Prop}(h:Rows A l ls)(J:Ints .u64 A x lx)(G:Aj ls)(R:ls.length<=1000)(hl:∀y∈ls,y.length<=1000)(N:∀k:Nat,Below ls lx k->K (k:Int) A):LN.sp l x A K:=by
 refine LN.of ?_;unfold LN.vc;have C:=h.len;refine av ls.length (λi z B=>A=B/\∃a b:Nat,z=((a:Int),(b:Int))/\a<=b/\b<=ls.length/\b - a+i<=ls.length/\(∀j (h:j<ls.length),j<a->wu ls[j] lx)/\∀j (h:j<ls.length),b<=j->¬wu ls[j] lx) ⟨rfl,0,ls.length,by rw[C];rfl,Q5 _,QN _,by omega,λj _ h=>by omega,λj h1 S=>by omega⟩ ?_;rintro i _ B next hi ⟨rfl,a,b,rfl,O,I,T,lo,o⟩ c
 refine ah (λq=>?_) (λq=>?_)
 ·have q:(a:Int)<(b:Int):=of_decide_eq_true q;have hm:QI.wrap (Rt (QI.wrap ((a:Int)+(b:Int))) 2)=(((a+b)/2:Nat):Int):=by
   rw[wrap64 (x:=(a:Int)+b) (by omega) (by omega),Int.tdiv_eq_ediv_of_nonneg (by omega),wrap64 (by omega) (by omega)];omega
  simp only;rw[hm];obtain⟨mid,v⟩:∃mid,mid=(a+b)/2:=⟨_,rfl⟩;rw[<-v];have f:mid<ls.length:=by omega
  refine h.ld f λad r _ P=>?_;refine kj P J (by have:=hl _ (Re f);omega) ?_;refine ah (λm=>?_) (λm=>?_)
  ·have m:wu ls[mid] lx:=(of_decide_eq_true m:aX ls[mid] lx<0);refine c (by omega) _ _ ⟨rfl,mid+1,b,by rw[aD mid (by omega)],by omega,I,by omega,λj D E=>?_,o⟩;rcases RA j mid with w|w
   ·exact nJ (BA G D f w) m
   ·have:j=mid:=by omega
    subst this;exact m
  ·have m:¬wu ls[mid] lx:=(of_decide_eq_false m:¬aX ls[mid] lx<0);refine c (by omega) _ _ ⟨rfl,a,mid,rfl,by omega,by omega,by omega,lo,λj D E u=>?_⟩;rcases RA mid j with w|w
   ·exact m (nJ (BA G f D w) u)
   ·have:j=mid:=by omega
    subst this;exact m u
 ·have q:¬(a:Int)<(b:Int):=of_decide_eq_false q;have e:a=b:=by omega
  subst e;exact N a ⟨I,lo,o⟩
theorem FK {α:Type}{rs:List α}{j:Nat}{y z:α}(a:j<rs.length)(c:rs[j]=z):(rs.take (j+1)++y::rs.drop (j+1)).set (j+1) z=rs.take j++z::rs.drop j:=by
 have hl:(rs.take (j+1)).length=j+1:=by rw[Ro];omega
 rw[V3 _ _ (by omega),hl,Wx,Tq,XP,QK a,c,Rw a,c];simp
theorem GS {α:Type}{rs:List α}{j:Nat}{y z:α}(a:j<=rs.length):(rs.take j++y::rs.drop j).set j z=rs.take j++z::rs.drop j:=by
 have hl:(rs.take j).length=j:=by rw[Ro];omega
 rw[V3 _ _ (by omega),hl,Wx,Tq]
theorem td {α:Type}{rs:List α}{k j:Nat}{z r:α}(hk:k<=rs.length)(h:(rs.take k++z::rs.drop k)[j]?=some r):j<k/\rs[j]?=some r\/j=k/\r=z\/k<j/\rs[j - 1]?=some r:=by
 have hl:(rs.take k).length=k:=by rw[Ro];omega
 rcases Ua j k with q|q|q
 ·rw[Rf (by omega),RF,if_pos q] at h;exact .inl ⟨q,h⟩
 ·subst q;rw[RK (by omega),hl,Wx] at h;exact .inr (.inl ⟨rfl,(Rc h).symm⟩)
 ·rw[RK (by omega),hl] at h;obtain⟨i,hi⟩:∃i,j - k=i+1:=⟨j - k - 1,by omega⟩;rw[hi,RV,Si] at h;exact .inr (.inr ⟨q,by rw[show j - 1=k+i by omega];exact h⟩)
set_option maxHeartbeats 1000000 in
theorem HW {k:Nat}{K:Sl->aa->Prop}(h:fq X A s ls)(G:Ints .u64 A x lx)(a7:lx.length<=1000)(hn:ls.length<=1000)(hk:k<=ls.length)(hX:∀b,X b->b<A.size)
  (hK:∀s' B,fq X B s' (ls.take k++lx::ls.drop k)->Mod (ai s) A B->(∀b,ai s' b->ai s b\/A.size<=b)->K s' B):
  bf aq QH (QM #[dv,dv] dv #[.slice none 0 0,x.v]) A λ(own:Sl) Z=>aG Z #[own.v] dv λp H4=>bf aq QH (QM #[dY,dY] dY #[s.v,.slice (some p) 1 1]) H4 λ(c:Sl) H5=>ay Int (QI.wrap ((c.n:Int) - (1:Int))) H5 λnext i H6=>br (decide (i>(k:Int))) (ae c.a λaf=>(0<=(QI.wrap (i - (1:Int)))/\(QI.wrap (i - (1:Int)))<(c.n:Int))/\ld aq H6 (af.add ((QI.wrap (i - (1:Int))).toNat*1)) λ(al:Sl)=>ae c.a λan=>(0<=i/\i<(c.n:Int))/\st H6 (an.add (i.toNat*1)) al.v λH7=>next (QI.wrap (i - (1:Int))) H7) (ae c.a λa1=>(0<=(k:Int)/\(k:Int)<(c.n:Int))/\st H6 (a1.add ((k:Int).toNat*1)) own.v λH8=>K c H8):=by
 obtain⟨rs,o,hlen,hr⟩:=h.ex;have a8:=h.n;have ln:=G.len;refine jR.append (base:=A.size) (s:=Sl.mk none 0 0) (x:=x) (xs:=[]) (ws:=lx.map (QT .u64)) (aO.nil _ _ _ _) (by simp;omega) G.reads (oa _ _) (by simp only;omega) (by simp only;omega) (QN _) λown Z n3 o3 m3 b3 _=>?_;have e3:Ext A Z:=m3.ext (by rintro b ⟨ad,h,_⟩;cases h);have z3:=e3.size;have o3:aO Z A.size fM 1 own (lx.map (QT .u64)):=o3;have f:=o3.block;refine uS.push (base:=0) (o.ext e3) rfl (by omega) (by omega) (Q5 _) λs' B n1 o1 m1 N _=>?_;have z1:=m1.size;have O:∀b,ai s b->b<A.size:=h.lt;have P:s'.n=ls.length+1:=by omega
 have R:rs.length=ls.length:=hlen;rw[show QI.wrap ((s'.n:Int) - 1)=(ls.length:Int) by rw[P,wrap64 (by omega) (by omega)];omega];refine av (ls.length - k) (λi z C=>z=((ls.length - i:Nat):Int)/\(∃y:Sl,aO C 0 dv 1 s' ((rs.take (ls.length - i)++y::rs.drop (ls.length - i)).map Sl.v))/\Mod (ai s') B C/\C.size=B.size) ⟨by simp,⟨own,?_⟩,.refl _ _,rfl⟩ ?_
 ·rw[Wb,<-R,Ut,TV,Rm];exact o1
 rintro i _ C next hi ⟨rfl,⟨y,oC⟩,mC,zC⟩ I
 obtain⟨j,hj⟩:∃j,j=ls.length - i:=⟨_,rfl⟩;rw[<-hj] at oC ⊢;refine ah (λq=>?_) (λq=>?_)
 ·have q:(j:Int)>(k:Int):=of_decide_eq_true q;obtain⟨t,rfl⟩:∃t,j=t+1:=⟨j - 1,by omega⟩;have S:t<rs.length:=by omega
  have ew:QI.wrap (((t+1:Nat):Int) - 1)=(t:Int):=by rw[wrap64 (by omega) (by omega)];omega
  rw[ew];obtain⟨ad,m,hc⟩:=oC.reads t (Sl.v rs[t]) (by rw[QV,Rf (by rw[Ro];omega),RF,if_pos (by omega),QK S];rfl);refine aZ ad m ⟨⟨by omega,by omega⟩,rs[t],by rw[QP,Rz];exact hc,?_⟩;refine oC.st (i:=((t+1:Nat):Int)) (by omega) (by omega) (by cases rs[t];rfl) λD oD mD zD=>?_;refine I (by omega) _ _ ⟨by omega,⟨rs[t],?_⟩,mC.trans mD,zD.trans zC⟩;rw[show ls.length - (i+1)=t by omega];have:=FK (y:=y) S rfl;rw[<-this,R9];exact oD
 ·have q:¬(j:Int)>(k:Int):=of_decide_eq_false q;have e:j=k:=by omega
  subst e;refine oC.st (i:=(j:Int)) (by omega) (by omega) (by cases own;rfl) λD oD mD zD=>?_;rw[QP,<-R9,GS (by omega)] at oD;have T:Mod (ai s) A D:=⟨by omega,λb E u=>by
   rw[mD.same b (by omega) λv=>(N b v).elim u λw=>by omega,mC.same b (by omega) λv=>(N b v).elim u λw=>by omega,m1.same b (by omega) u,e3.same b E id]⟩
  have old:∀{a:Sl} {y:List Int},Ints .u64 A a y->(∀ad,a.a=some ad->ad.block<A.size/\¬X ad.block/\¬ai s ad.block)->Ints .u64 D a y/\∀ad,a.a=some ad->ad.block<D.size/\¬X ad.block/\¬ai s' ad.block:=λhi G=>
   ⟨hi.mod T λad m=>(G ad m).2.2,λad m=>⟨by have:=(G ad m).1;omega,(G ad m).2.1,λv=>(N _ v).elim (G ad m).2.2 λw=>by have:=(G ad m).1;omega⟩⟩
  have V:Ints .u64 D own lx/\∀ad,own.a=some ad->ad.block<D.size/\¬X ad.block/\¬ai s' ad.block:=by
   have f1:∀b,ai own b->¬ai s' b:=λb E v=>by
    have:=f b E;rcases N b v with w|w
    ·have:=O b w;omega
    ·omega
   have f2:∀b,ai own b->¬ai s b:=λb E v=>by have:=f b E;have:=O b v;omega
   refine⟨(((o3.mod m1 f2).mod mC f1).mod mD f1).ints,λad m=>?_⟩;have:=f _ ⟨ad,m,rfl⟩;exact⟨by omega,λu=>by have:=hX _ u;omega,f1 _ ⟨ad,m,rfl⟩⟩
  refine hK s' D ⟨⟨rs.take j++own::rs.drop j,oD,by simp[R],λi2 r l a6 J=>?_⟩,λb E u=>?_⟩ T λb E=>(N b E).imp id λw=>by omega
  ·rcases td (by omega) a6 with ⟨q1,q2⟩|⟨rfl,rfl⟩|⟨q1,q2⟩
   ·rcases td hk J with ⟨_,q4⟩|⟨Y,_⟩|⟨Y,_⟩
    ·obtain⟨g1,g2⟩:=hr _ _ _ q2 q4;exact old g1 g2
    ·omega
    ·omega
   ·rcases td hk J with ⟨Y,_⟩|⟨_,rfl⟩|⟨Y,_⟩
    ·omega
    ·exact V
    ·omega
   ·rcases td hk J with ⟨Y,_⟩|⟨Y,_⟩|⟨_,q4⟩
    ·omega
    ·omega
    ·obtain⟨g1,g2⟩:=hr _ _ _ q2 q4;exact old g1 g2
  ·rcases N b E with v|v
   ·exact h.off b v u
   ·have:=hX b u;omega
theorem A9 {K:Sl->aa->Prop}(h:fq X A s ls)(z:Ints .u64 A x lx)(o:Aj ls)(C:lx.length<=1000)(O:ls.length<=1000)(hl:∀y∈ls,y.length<=1000)(R:∀b,X b->b<A.size)
  (P:∀s' c B,fq X B s' c->Aj c->(∀y,y∈c↔y=lx\/y∈ls)->Mod (ai s) A B->(∀b,ai s' b->ai s b\/A.size<=b)->K s' B):LD.sp s x A K:=by
 refine LD.of ?_;unfold LD.vc;have S:=h.n;refine HI h.rows z o O hl λk v=>?_;have tail:lx∉ls->∀{Q:Prop},(bf aq QH (QM #[dv,dv] dv #[.slice none 0 0,x.v]) A (λ(own:Sl) T=>aG T #[own.v] dv λp V=>bf aq QH (QM #[dY,dY] dY #[s.v,.slice (some p) 1 1]) V λ(a:Sl) Y=>ay Int (QI.wrap ((a.n:Int) - (1:Int))) Y λnext i D=>br (decide (i>(k:Int))) (ae a.a λE=>(0<=(QI.wrap (i - (1:Int)))/\(QI.wrap (i - (1:Int)))<(a.n:Int))/\ld aq D (E.add ((QI.wrap (i - (1:Int))).toNat*1)) λ(G:Sl)=>ae a.a λI=>(0<=i/\i<(a.n:Int))/\st D (I.add (i.toNat*1)) G.v λZ=>next (QI.wrap (i - (1:Int))) Z) (ae a.a λJ=>(0<=(k:Int)/\(k:Int)<(a.n:Int))/\st D (J.add ((k:Int).toNat*1)) own.v λH8=>K a H8))->Q)->Q:=λN Q go=>by
  obtain⟨g1,g2⟩:=v.ins o N;exact go (HW h z C O v.le R λs' B r m b=>P s' _ B r g1 g2 m b)
 refine ah (λq=>?_) (λq=>?_)
 ·have q:(k:Int)<(s.n:Int):=of_decide_eq_true q;have f:k<ls.length:=by omega
  refine h.rows.ld f λad r _ ri=>?_;refine kj ri z (by have:=hl _ (Re f);omega) ?_;refine ah (λj=>?_) (λj=>?_)
  ·have j:aX ls[k] lx=0:=by simpa using j
   have hm:=(v.mem o).2 ⟨f,cr.1 j⟩;exact P s ls A h o (λy=>⟨.inr,λu=>u.elim (λe=>e▸hm) id⟩) (.refl _ _) λb hb=>.inl hb
  ·have j:¬aX ls[k] lx=0:=by simpa using j
   exact tail (λu=>j (cr.2 ((v.mem o).1 u).2)) id
 ·have q:¬(k:Int)<(s.n:Int):=of_decide_eq_false q;exact tail (λu=>by have:=((v.mem o).1 u).1;omega) id
end
section
variable {A:aa}{rows:Sl}{rl:List (List Int)}{X:Nat->Prop}
theorem uK (l:List (List Int)):Aj (cG (eN l)):=AF (th l)
theorem kf {y:List Int}{l:List (List Int)}:y∈cG (eN l)↔y∈l:=DW.trans (nD _).mem_iff
theorem BQ {K:Sl->aa->Prop}(h:Rows A rows rl)(hn:rl.length<=900)(hl:∀y∈rl,y.length<=1000)(R:∀b,X b->b<A.size)
  (O:∀out B,fq X B out (cG (eN rl))->Ext A B->(∀b,ai out b->A.size<=b)->K out B):Lc.sp rows A K:=by
 refine Lc.of ?_;unfold Lc.vc;have S:=h.len;refine av rl.length (λi z B=>z.2=(i:Int)/\i<=rl.length/\Ext A B/\(∀b,ai z.1 b->A.size<=b)/\∃ls,fq X B z.1 ls/\Aj ls/\∀y,y∈ls↔y∈rl.take i) ⟨rfl,Q5 _,.refl _ _,λb u=>(by obtain⟨ad,e,_⟩:=u;cases e),[],fq.nil _ _,UY,λy=>by simp⟩ ?_;rintro i ⟨out,zi⟩ B next hi ⟨f,T,j,o,ls,v,D,hm⟩ c
 simp only at f o v ⊢;subst f;have hlen:ls.length<=i:=by
  have e:ls=cG (eN (rl.take i)):=xu D (uK _) λy=>by rw[hm,kf]
  have:=jg (rl.take i);rw[<-e,Ro] at this;omega
 refine ah (λq=>?_) λq=>?_
 ·have q:(i:Int)<(rows.n:Int):=of_decide_eq_true q;have a:i<rl.length:=by omega
  obtain⟨ad,r,V,Y,Z⟩:=h.at' i a;refine aZ ad V ⟨⟨by omega,by omega⟩,r,by rw[QP,Rz];exact(Ext.mod j (F:=λ_=>False)).cell Y id,?_⟩;have zB:=j.size;refine A9 v (Z.ext j) D (hl _ (Re a)) (by omega) (λy hy=>hl y (RU ((hm y).1 hy))) (λb m=>by have:=R b m;omega) λs' E C G I J P oC=>?_;have zC:=P.size;refine c a _ _ ⟨aD i (by omega),by omega,⟨by omega,λb m _=>(P.same b (by omega) λu=>by have:=o b u;omega).trans (j.same b m id)⟩,λb m=>(oC b m).elim (o b) λu=>by omega,E,G,I,λy=>?_⟩;rw[J,hm,QO a,QQ,Q1];exact or_comm
 ·have q:¬(i:Int)<(rows.n:Int):=of_decide_eq_false q;have N:i=rl.length:=by omega
  subst N;rw[Ut] at hm;have e:ls=cG (eN rl):=xu D (uK rl) λy=>by rw[hm,kf]
  rw[<-e] at O;exact O out B v j o
end
end
section
open Go.MapKept
section
variable (n:ByteArray)(hn:named n=true)
end
end
section
open Go.MapKept
def jL:eZ Pg:=⟨1,λp=>[.string (cP p.1)],λ_=>rfl,λx u hu=>by simp at hu;subst hu;rfl⟩
def Ay:eZ Wr:=⟨3,λw=>[.int .i64 w.no,.int .i64 w.page,.string (cP w.b.1)],λ_=>rfl,λx u hu=>by simp at hu;rcases hu with rfl|rfl|rfl<;>rfl⟩
def qS:eZ (ByteArray×Sl×Sl):=⟨3,λf=>[.string f.1,f.2.1.v,f.2.2.v],λ_=>rfl,λx u hu=>by simp at hu;rcases hu with rfl|rfl|rfl<;>rfl⟩
theorem He:tc QH dV dG jL.size 16:=fe (by kernel_rfl)
theorem OJ:tc QH OC AO Ay.size 32:=fe (by kernel_rfl)
theorem KN:tc QH EO vD qS.size 64:=fe (by kernel_rfl)
def rQ:List Fl->List (Sl×Sl)->List (ByteArray×Sl×Sl)
 |f::fs,g::gs=>(f.name,g.1,g.2)::rQ fs gs
 |_,_=>[]
theorem nF:∀(fs:List Fl) (gs:List (Sl×Sl)) (i:Nat) (f:Fl) (g:Sl×Sl),fs[i]?=some f->gs[i]?=some g->(rQ fs gs)[i]?=some (f.name,g.1,g.2)
 |[],_,_,_,_,h,_=>by simp at h
 |_::_,[],_,_,_,_,h=>by simp at h
 |f::fs,g::gs,0,_,_,h1,a=>by simp at h1 a;subst h1;subst a;rfl
 |f::fs,g::gs,i+1,f',g',h1,a=>by simpa[rQ] using nF fs gs i f' g' (by simpa using h1) (by simpa using a)
theorem fI:∀(fs:List Fl) (gs:List (Sl×Sl)),gs.length=fs.length->(rQ fs gs).length=fs.length
 |[],_,_=>by cases ‹List (Sl×Sl)›<;>rfl
 |_::_,[],h=>by simp at h
 |f::fs,g::gs,h=>by simp[rQ,fI fs gs (by simpa using h)]
structure aQ (H:aa)(fl:Sl)(gs:List (Sl×Sl))(fs:List Fl):Prop where
 arr:aF qS vD H fl (rQ fs gs)
 len:gs.length=fs.length
 ent:∀(i:Nat) (f:Fl) (g:Sl×Sl),fs[i]?=some f->gs[i]?=some g->aF jL dG H g.1 f.synced/\aF Ay AO H g.2 f.log
 apart:∀(i j:Nat) (g g':Sl×Sl),gs[i]?=some g->gs[j]?=some g'->i≠j->∀b,ai g.2 b->¬ai g'.2 b
def CI (fl:Sl)(gs:List (Sl×Sl))(b:Nat):Prop:=ai fl b\/∃g∈gs,ai g.1 b\/ai g.2 b
theorem aQ.Dl {H:aa}{fl:Sl}{gs:List (Sl×Sl)}{fs:List Fl}(h:aQ H fl gs fs){i:Nat}{f:Fl}(hi:fs[i]?=some f):∃g,gs[i]?=some g/\aF jL dG H g.1 f.synced/\aF Ay AO H g.2 f.log:=by
 have a:=(QJ.1 hi).1;have c:gs[i]?=some (gs[i]'(by rw[h.len];exact a)):=QK _;exact⟨_,c,h.ent i f _ hi c⟩
theorem aQ.zO {H:aa}{fl:Sl}{gs:List (Sl×Sl)}{fs:List Fl}(h:aQ H fl gs fs){i:Nat}{g:Sl×Sl}(hi:gs[i]?=some g):∃f,fs[i]?=some f/\aF jL dG H g.1 f.synced/\aF Ay AO H g.2 f.log:=by
 have a:=(QJ.1 hi).1;have c:fs[i]?=some (fs[i]'(by rw[<-h.len];exact a)):=QK _;exact⟨_,c,h.ent i _ g c hi⟩
theorem aQ.lt {H:aa}{fl:Sl}{gs:List (Sl×Sl)}{fs:List Fl}(h:aQ H fl gs fs):∀b,CI fl gs b->b<H.size:=by
 rintro b (q|⟨g,a,q⟩)
 ·exact h.arr.lt b q
 ·obtain⟨i,hi⟩:=QU.1 a;obtain⟨f,_,c,e⟩:=h.zO hi;rcases q with q|q
  ·exact c.lt b q
  ·exact e.lt b q
theorem aQ.ar {H H':aa}{fl:Sl}{gs:List (Sl×Sl)}{fs:List Fl}(h:aQ H fl gs fs)(k:∀b,CI fl gs b->b<H.size->H'[b]?=H[b]?):aQ H' fl gs fs:=
 ⟨h.arr.ar λb a=>k b (.inl a),h.len,λi f g e c=>⟨(h.ent i f g e c).1.ar λb a=>k b (.inr ⟨g,QL c,.inl a⟩),(h.ent i f g e c).2.ar λb a=>k b (.inr ⟨g,QL c,.inr a⟩)⟩,h.apart⟩
theorem aQ.ty {H:aa}{fl:Sl}{gs:List (Sl×Sl)}{fs:List Fl}(h:aQ H fl gs fs):∀b,CI fl gs b->∃cs t,H[b]?=some (.cells cs t (0,0))/\(t=vD\/t=dG\/t=AO):=by
 rintro b (q|⟨g,a,q⟩)
 ·obtain⟨c,e⟩:=h.arr.obj b q;exact⟨c,_,e,.inl rfl⟩
 ·obtain⟨i,hi⟩:=QU.1 a;obtain⟨f,_,j,m⟩:=h.zO hi;rcases q with q|q
  ·obtain⟨c,e⟩:=j.obj b q;exact⟨c,_,e,.inr (.inl rfl)⟩
  ·obtain⟨c,e⟩:=m.obj b q;exact⟨c,_,e,.inr (.inr rfl)⟩
def dq (fl:Sl)(most quota ops next:Int)(laid:Bool)(cin kp:Int)(down:Bool):Array gp:=
 #[fl.v,.int .i64 most,.int .i64 quota,.int .i64 ops,.int .i64 next,.bool laid,.int .i64 cin,.int .u64 kp,.bool down]
structure iL (fl:Sl)(gs:List (Sl×Sl))(cin kp:Int)(H:aa)(d:Nat)(s:Dk):Prop where
 head:ao H d yo (dq fl s.most s.quota s.ops s.next s.crash.isSome cin kp s.down)
 crash:kR s cin kp
 files:aQ H fl gs s.files
 wf:s.WF
def cA (F:Nat->Prop)(H:aa)(d:Nat)(s:Dk):Prop:=∃fl gs cin kp,iL fl gs cin kp H d s/\∀b,F b↔b=d\/CI fl gs b
theorem iL.off {H:aa}{d:Nat}{fl:Sl}{gs:List (Sl×Sl)}{fs:List Fl}{cs:Array gp}(hd:ao H d yo cs)(h:aQ H fl gs fs):¬CI fl gs d:=by
 intro f;obtain⟨c,t,e,a⟩:=h.ty d f;rw[<-aM hd e] at a;exact absurd a (by decide)
theorem cA.lt {F:Nat->Prop}{H:aa}{d:Nat}{s:Dk}(h:cA F H d s):∀b,F b->b<H.size:=by
 obtain⟨fl,gs,cin,kp,g,a⟩:=h;intro b c;rcases (a b).1 c with rfl|q
 ·exact aI g.head
 ·exact g.files.lt b q
theorem cA.ar {F:Nat->Prop}{H H':aa}{d:Nat}{s:Dk}(h:cA F H d s)(k:∀b,F b->b<H.size->H'[b]?=H[b]?):cA F H' d s:=by
 obtain⟨fl,gs,cin,kp,g,a⟩:=h;exact⟨fl,gs,cin,kp,⟨(k d ((a d).2 (.inl rfl)) (aI g.head)).trans g.head,g.crash,g.files.ar λb c=>k b ((a b).2 (.inr c)),g.wf⟩,a⟩
theorem cA.wf {F:Nat->Prop}{H:aa}{d:Nat}{s:Dk}(h:cA F H d s):s.WF:=by
 obtain⟨fl,gs,cin,kp,g,a⟩:=h;exact g.wf
theorem iL.out {fl fl':Sl}{gs a:List (Sl×Sl)}{cin kp:Int}{F:Nat->Prop}{H H':aa}{d:Nat}{s:Dk}(h:iL fl' a cin kp H' d s)(c:∀b,F b↔b=d\/CI fl gs b)(hm:Mod F H H')(f:∀b,CI fl' a b->CI fl gs b\/H.size<=b):
  ∃F',cA F' H' d s/\Step F F' H H':=
 ⟨λb=>b=d\/CI fl' a b,⟨fl',a,cin,kp,h,λ_=>V4⟩,hm,by
  rintro b (e|q)
  ·exact .inl ((c b).2 (.inl e))
  ·exact(f b q).imp (λq=>(c b).2 (.inr q)) id⟩
theorem aF.one {α:Type}{E:eZ α}{e:ic}{H:aa}{s:Sl}{l:List α}(h:aF E e H s l){i:Nat}{x:α}{c:fg}{y:c.α}(hi:l[i]?=some x)(hs:E.size=1)(a:E.enc x=[c.enc y]){ad:hY}(f:s.a=some ad){K:c.α->Prop}(m:K y):ld c H (ad.add (i*1)) K:=by
 have:=bX.ld (c:=c) (K:=K) h.rd f (i:=i) (j:=0) hi (by rw[a];rfl) (n:=i*1) (by rw[hs]) m;rw[add_add] at this;exact this
theorem C6 {l:Sl}{ps:List Pg}{w:Wr}{H:aa}{K:Sl->aa->Prop}(h:aF jL dG H l ps)(hlen:ps.length<=2097152)(o:w.page<2097152)
  (V:∀u H',aF jL dG H' u (dZ ps w)->Mod (λ_=>False) H H'->(∀b,ai u b->H.size<=b)->K u H'):KP.sp l w.no w.page (cP w.b.1) H K:=by
 refine KP.of ?_;unfold KP.vc;refine au λH1 s1 Y m1=>?_;have f:aF jL dG H1 l ps:=h.ext m1;refine aF.append (E:=jL) He (s:=Sl.mk none 0 0) (x:=l) (l:=[]) (aF.nil _ _ _) f.rd (f.n (by decide)) (by simp;omega) (by simp;omega) λout Z o2 g2 _=>?_;have f2:∀b,ai out b->H1.size<=b:=λb a=>(g2.2 b a).resolve_left (by rintro⟨ad,q,_⟩;cases q);have m12:Mod (λ_=>False) H1 Z:=g2.1.mono λb _ a=>by obtain⟨ad,q,_⟩:=a;cases q
 refine⟨Nat,λk e z=>aF jL dG z e (ps++Q6 k IB)/\k<=w.page+1 - ps.length/\Mod (λ_=>False) H1 z/\(∀b,ai e b->H1.size<=b),λk=>w.page+1 - ps.length - k,⟨0,by simpa using o2,Q5 _,m12,f2⟩,?_⟩;rintro k e z ⟨m,hk,m3,f3⟩;have hn:e.n=ps.length+k:=by rw[aF.n m (by decide)];simp
 have C:=Y.ext m3;refine C.ld (c:=ab .i64) (i:=1) (x:=(w.page:Int)) rfl ?_;refine ah (λD=>?_) (λD=>?_)
 ·have G:e.n<=w.page:=by simpa using D
  refine Kw.make (base:=0) (by omega) (TG _) (by omega) (by omega) (Q5 _) λb4 I af J N f4 _=>?_;have O:aF EB fU I b4 IB.1:=by
   refine MN ?_;have:IB.1=Q6 512 0:=rfl;rw[this,Ja];exact J
  refine lC (cg O) ?_;refine aF.push (E:=jL) He (x:=IB) (m.ext N) rfl (by simp;omega) (by simp;omega) λs5 H5 S g5 _=>?_;have z3:=m3.size;have z4:=N.size;have z5:=g5.1.size;refine⟨k+1,⟨?_,by omega,?_,?_⟩,by show _ - _<_ - _;omega⟩
  ·rw[RD,<-List.replicate_succ'] at S;exact S
  ·refine⟨by omega,λb a _=>(g5.1.same b (by omega) λP=>by have:=f3 b P;omega).trans ((N.same b (by omega) id).trans (m3.same b a id))⟩
  ·intro b a;rcases g5.2 b a with q|q
   ·exact f3 b q
   ·omega
 ·have G:w.page<e.n:=by simpa using D
  refine C.ld (c:=ab .i64) (i:=1) (x:=(w.page:Int)) rfl ?_;refine C.ld (c:=aN) (i:=2) (x:=cP w.b.1) rfl ?_;obtain⟨ad,T⟩:=bX.addr m.rd (by decide) (by simp;omega);rw[T];refine⟨⟨by omega,by omega⟩,?_⟩;have hx:(ps++Q6 k IB)[w.page]?=some ((ps++Q6 k IB)[w.page]'(by simp;omega)):=QK _;have:=aF.st (E:=jL) m T (i:=w.page) (j:=0) (y:=w.b) (v:=.string (cP w.b.1)) (K:=λH7=>K e H7) hx (by decide) rfl rfl (n:=w.page*1) rfl λI J m4 s4=>by
   have R:k=w.page+1 - ps.length:=by omega
   have z3:=m3.size;refine V e I (by unfold dZ;rw[<-R];exact J) ⟨by omega,λb a _=>(m4.same b (by omega) λP=>by have:=f3 b P;omega).trans ((m3.same b (by omega) id).trans (m1.same b a id))⟩ (λb a=>by have:=f3 b a;omega)
  rw[add_add] at this;simp only[QP];exact this
theorem mw {f:Fl}{g:Sl×Sl}{nm:ByteArray}{H:aa}{K:Sl->aa->Prop}(h1:aF jL dG H g.1 f.synced)(N:aF Ay AO H g.2 f.log)(Z:f.az.length<=2097152)(hl:f.log.length<68719476736)
  (O:∀l H',aF jL dG H' l f.az->Mod (λ_=>False) H H'->(∀b,ai l b->H.size<=b)->K l H'):FC.sp nm g.1 g.2 H K:=by
 refine FC.of ?_;unfold FC.vc;refine au λH1 s1 z m1=>?_;refine z.ld (c:=aq) (i:=1) (x:=g.1) rfl ?_;have hsl:=f.vS;have C:aF jL dG H1 g.1 f.synced:=h1.ext m1;have D:aF Ay AO H1 g.2 f.log:=N.ext m1;refine aF.append (E:=jL) He (s:=Sl.mk none 0 0) (x:=g.1) (l:=[]) (aF.nil _ _ _) C.rd (C.n (by decide)) (by simp;omega) (by simp;omega) λout P R g2 _=>?_;have f2:∀b,ai out b->H1.size<=b:=λb e=>(g2.2 b e).resolve_left (by rintro⟨ad,q,_⟩;cases q);have m12:Mod (λ_=>False) H1 P:=g2.1.mono λb _ e=>by obtain⟨ad,q,_⟩:=e;cases q
 have hn:=D.n (by decide);refine av f.log.length (λk x o=>x.2=(k:Int)/\aF jL dG o x.1 ((f.log.take k).foldl dZ f.synced)/\Mod (λ_=>False) H1 o/\(∀b,ai x.1 b->H1.size<=b)) ⟨rfl,by simpa using R,m12,f2⟩ ?_;rintro k ⟨S,i⟩ o next hk ⟨hi,u,m3,f3⟩ a
 simp only at hi;subst hi;simp only at u f3 a ⊢;have G:=z.ext m3;refine G.ld (c:=aq) (i:=2) (x:=g.2) rfl ?_;refine ah (λj=>?_) (λj=>?_)
 ·have h:k<f.log.length:=by rw[hn] at j;simpa using j
  refine G.ld (c:=aq) (i:=2) (x:=g.2) rfl ?_;have I:=D.ext m3;obtain⟨ad,J⟩:=bX.addr (aF.rd I) (by decide) (by omega);rw[J];refine⟨⟨by omega,by omega⟩,?_⟩;have hw:f.log[k]?=some f.log[k]:=QK h;obtain⟨w,m⟩:∃w,w=f.log[k]:=⟨_,rfl⟩;rw[<-m] at hw;refine bX.cN (E:=Ay) (c:=bR [(ab .i64),(ab .i64),aN]) (y:=(w.no,(w.page:Int),cP w.b.1)) (aF.rd I) J hw rfl (by simp[Ay]) rfl ?_;have hle:((f.log.take k).foldl dZ f.synced).length<=f.az.length:=by
   have:=nR f.log (λ_=>true) k f.synced;rw[List.filter_eq_self.2 (λ_ _=>rfl)] at this;exact this
  have T:=nU f.log f.synced w (QL hw);have V:(f.log.foldl dZ f.synced).length=f.az.length:=rfl;refine C6 (w:=w) u (by omega) (by omega) λl4 H4 Y m4 f4=>?_;have z3:=m3.size;refine a h _ _ ⟨aD k (by omega),?_,m3.trans m4,λb e=>by have:=f4 b e;omega⟩;rw[QO h,<-m,List.foldl_append];exact Y
 ·have v:k=f.log.length:=by rw[hn] at j;simp at j;omega
  rw[v,QS (QN _)] at u;exact O S o u (m1.trans m3) (λb e=>by have:=f3 b e;omega)
end
section
open Go.MapKept
theorem aQ.n {H:aa}{fl:Sl}{gs:List (Sl×Sl)}{fs:List Fl}(h:aQ H fl gs fs):fl.n=fs.length:=by
 rw[h.arr.n (by decide),fI _ _ h.len]
theorem aQ.Ob {H:aa}{fl:Sl}{gs:List (Sl×Sl)}{fs:List Fl}(h:aQ H fl gs fs){i:Nat}{f:Fl}{g:Sl×Sl}(e:fs[i]?=some f)(m:gs[i]?=some g){K:(ByteArray×Sl×Sl)->Prop}(o:K (f.name,g.1,g.2)):
  ae fl.a λa=>(0<=(i:Int)/\(i:Int)<(fl.n:Int))/\cN (bR [aN,aq,aq]) 3 H (a.add ((i:Int).toNat*3)) K:=by
 have hi:=(QJ.1 e).1;obtain⟨ad,j⟩:=bX.addr h.arr.rd (by decide) (by rw[fI _ _ h.len];omega);rw[j];refine⟨⟨by omega,by rw[h.n];omega⟩,?_⟩;exact bX.cN (E:=qS) (c:=bR [aN,aq,aq]) (y:=(f.name,g.1,g.2)) h.arr.rd j (nF _ _ i f g e m) rfl (by simp[qS]) rfl o
theorem aQ.ld1 {H:aa}{fl:Sl}{gs:List (Sl×Sl)}{fs:List Fl}(h:aQ H fl gs fs){i j:Nat}{f:Fl}{g:Sl×Sl}(e:fs[i]?=some f)(o:gs[i]?=some g){c:fg}{y:c.α}(q:(qS.enc (f.name,g.1,g.2))[j]?=some (c.enc y)){K:c.α->Prop}(u:K y):
  ae fl.a λa=>(0<=(i:Int)/\(i:Int)<(fl.n:Int))/\ld c H ((a.add ((i:Int).toNat*3)).add j) K:=by
 have hi:=(QJ.1 e).1;obtain⟨ad,m⟩:=bX.addr h.arr.rd (by decide) (by rw[fI _ _ h.len];omega);rw[m];refine⟨⟨by omega,by rw[h.n];omega⟩,?_⟩;exact bX.ld (E:=qS) (c:=c) h.arr.rd m (nF _ _ i f g e o) q (by simp[qS]) u
theorem wN {fl:Sl}{gs:List (Sl×Sl)}{d:Nat}{cs:Array gp}{s:Dk}{H:aa}{K:Int->aa->Prop}(hd:ao H d yo cs)(j:cs[0]?=some fl.v)(C:aQ H fl gs s.files)(hu:s.used<=2097152)(D:s.files.length<=4096)(u:s.aH<68719476736)(E:∀H',Mod (λ_=>False) H H'->K s.used H'):KA.sp (aK d) H K:=by
 refine KA.of ?_;unfold KA.vc;simp only[aw];have hn:=C.n;refine av s.files.length (λk x H1=>x=(((((s.files.take k).map λf=>f.az.length).sum:Nat):Int),(k:Int))/\Mod (λ_=>False) H H1) ⟨rfl,.refl _ _⟩ ?_;rintro k _ H1 next hk ⟨rfl,m1⟩ e
 have h1:=hd.ext m1;have f1:aQ H1 fl gs s.files:=C.ar λb R hl=>m1.same b hl id;refine h1.ld (c:=aq) (i:=0) (x:=fl) j ?_;refine ah (λm=>?_) (λm=>?_)
 ·have h:k<s.files.length:=by rw[hn] at m;simpa using m
  have a:s.files[k]?=some s.files[k]:=QK h;obtain⟨f,o⟩:∃f,f=s.files[k]:=⟨_,rfl⟩;rw[<-o] at a;obtain⟨S,G,I,J⟩:=f1.Dl a;refine h1.ld (c:=aq) (i:=0) (x:=fl) j ?_;refine f1.Ob a G ?_;have N:=Dk.fm a;have O:=Dk.kM a;refine mw I J (by omega) (by omega) λl T P m2 _=>?_;have v:=P.n (by decide);have q:((s.files.take (k+1)).map λf=>f.az.length).sum=((s.files.take k).map λf=>f.az.length).sum+f.az.length:=by
   rw[QO h,<-o];simp
  have hle:((s.files.take (k+1)).map λf=>f.az.length).sum<=s.used:=by
   unfold Dk.used
   conv=>rhs;rw[<-Tj (k+1) s.files,Rm,W8]
   omega
  refine e h _ _ ⟨?_,m1.trans m2⟩;rw[aD k (by omega),q,v,wrap64 (by omega) (by omega)];simp
 ·have z:k=s.files.length:=by rw[hn] at m;simp at m;omega
  rw[z,QS (QN _)];exact E H1 m1
def mK (s:Dk)(n:ByteArray):Int:=match s.idx n with|some i=>(i:Int)|none=>-1
theorem lk {fl:Sl}{gs:List (Sl×Sl)}{d:Nat}{cs:Array gp}{s:Dk}{H:aa}{n:ByteArray}{K:Int->aa->Prop}(hd:ao H d yo cs)(v:cs[0]?=some fl.v)(D:aQ H fl gs s.files)(hw:s.files.length<=4096)
  (o:K (mK s n) H):CD.sp (aK d) n H K:=by
 refine CD.of ?_;unfold CD.vc;simp only[aw];have hn:=D.n;refine av s.files.length (λk x H1=>x=(k:Int)/\H1=H/\∀j (u:j<s.files.length),j<k->(s.files[j].name.toList==n.toList)=false) ⟨rfl,rfl,λj _ h=>by omega⟩ ?_;rintro k _ H1 next hk ⟨rfl,rfl,a⟩ e
 refine hd.ld (c:=aq) (i:=0) (x:=fl) v ?_;refine ah (λz=>?_) (λz=>?_)
 ·have m:k<s.files.length:=by rw[hn] at z;simpa using z
  have C:s.files[k]?=some s.files[k]:=QK m;obtain⟨O,I,_⟩:=D.Dl C;refine hd.ld (c:=aq) (i:=0) (x:=fl) v ?_;refine D.ld1 C I (j:=0) (c:=aN) (y:=s.files[k].name) rfl ?_;refine ah (λE=>?_) (λE=>?_)
  ·have:s.idx n=some k:=by
    unfold Dk.idx;rw[SM];exact⟨m,E,λj u=>by simpa using a j (by omega) u⟩
   unfold mK at o;rw[this] at o;exact o
  ·refine e m _ _ ⟨aD k (by omega),rfl,λj u J=>?_⟩;rcases RA j k with q|q
   ·exact a j u q
   ·have:j=k:=by omega
    subst this;exact E
 ·have N:k=s.files.length:=by rw[hn] at z;simp at z;omega
  have:s.idx n=none:=by
   unfold Dk.idx;rw[Tc];intro f G;obtain⟨j,u,rfl⟩:=Sb G;exact a j u (by omega)
  unfold mK at o;rw[this] at o;exact o
theorem Es {n:ByteArray}{H:aa}{K:Bool->aa->Prop}(a:K (named n) H):Lm.sp n H K:=by
 refine Lm.of ?_;unfold Lm.vc;have e:((decide ((n.size:Int)>=1))&&(decide ((n.size:Int)<=100)))=named n:=by
  unfold named;congr 1<;>(rw[decide_eq_decide];omega)
 rw[e];exact a
theorem iL.dz {fl:Sl}{gs:List (Sl×Sl)}{cin kp a c:Int}{H H':aa}{d:Nat}{s s':Dk}(h:iL fl gs cin kp H d s)(j:ao H' d yo (dq fl s'.most s'.quota s'.ops s'.next s'.crash.isSome a c s'.down))
  (hm:Mod (λb=>b=d) H H') (m:s'.files=s.files) (o:kR s' a c) (f:s'.WF):iL fl gs a c H' d s':=
 ⟨j,o,by rw[m];exact h.files.ar λb q hl=>hm.same b hl λe=>iL.off h.head h.files (e▸q),f⟩
theorem lD {fl:Sl}{gs:List (Sl×Sl)}{cin kp:Int}{d:Nat}{s:Dk}{H:aa}{K:Int->aa->Prop}(h:iL fl gs cin kp H d s)
  (J:∀a H',iL fl gs a kp H' d s.change.1->Mod (λb=>b=d) H H'->H'.size=H.size->K s.change.2 H'):FN.sp (aK d) H K:=by
 refine FN.of ?_;unfold FN.vc;simp only[aw];have v:=h.wf.change;have z:=s.bu;have f:∀(a:Int) (H':aa),ao H' d yo (dq fl s.change.1.most s.change.1.quota s.change.1.ops s.change.1.next s.change.1.crash.isSome a kp s.change.1.down)->kR s.change.1 a kp->Mod (λb=>b=d) H H'->H'.size=H.size->K s.change.2 H':=
  λa H' N j hm hs=>J a H' (h.dz N hm z j v) hm hs
 have m:=h.head;have u:=h.crash;refine m.ld (c:=aC) (i:=5) (x:=s.crash.isSome) rfl ?_;cases j:s.crash with
 |none=>
   have C:s.crash.isSome=false:=by rw[j];rfl
   refine aE rfl ?_;refine m.ld (c:=aC) (i:=5) (x:=s.crash.isSome) rfl ?_;refine aE C ?_;refine m.ld (c:=ab .i64) (i:=3) (x:=s.ops) rfl ?_;refine m.st (i:=3) (by simp[dq]) (by rfl) λH' r' D s'=>?_;have e:s.change=({s with ops:=fT (s.ops+1)},0):=by unfold Dk.change;rw[j]
   rw[e] at f;exact f cin H' r' (by intro i k q;rw[show ({s with ops:=fT (s.ops+1)}:Dk).crash=s.crash from rfl,j] at q;cases q) D s'
 |some O=>
   obtain⟨i,k⟩:=O;obtain⟨rfl,rfl⟩:=u i k j;have E:s.crash.isSome=true:=by rw[j];rfl
   refine aR rfl ?_;refine m.ld (c:=ab .i64) (i:=6) (x:=cin) rfl ?_;refine ah (λG=>?_) (λG=>?_)
   ·have o:cin=0:=by simpa using G
    have e:s.change=({s with down:=true},4):=by unfold Dk.change;rw[j];simp[o]
    rw[e] at f;refine m.st (i:=8) (by simp[dq]) (by rfl) λH' r' D s'=>?_;exact f cin H' r' (by intro i k q;exact u i k q) D s'
   ·have o:cin≠0:=by simpa using G
    have e:s.change=({s with crash:=some (fT (cin - 1),kp),ops:=fT (s.ops+1)},0):=by unfold Dk.change;rw[j];simp[o]
    rw[e] at f;refine m.ld (c:=aC) (i:=5) (x:=s.crash.isSome) rfl ?_;refine aR E ?_;refine m.ld (c:=ab .i64) (i:=6) (x:=cin) rfl ?_;refine m.st (i:=6) (by simp[dq]) (by rfl) λH1 I m1 s1=>?_;refine I.ld (c:=ab .i64) (i:=3) (x:=s.ops) rfl ?_;refine I.st (i:=3) (by simp[dq]) (by rfl) λP r2 m2 s2=>?_;refine f (fT (cin - 1)) P ?_ (by intro i k q;simp only[RH,RJ] at q;exact q) (m1.trans m2) (by omega);rw[j] at r2;exact r2
theorem Km {q:Int}{H:aa}{K:Option hY->aa->Prop}(u:q<=9223372036854775807)(a:∀F d H',cA F H' d (oe q)->Mod (λ_=>False) H H'->(∀b,F b->H.size<=b)->K (aK d) H'):LW.sp q H K:=by
 refine LW.of ?_;unfold LW.vc;refine au λc s2 r2 m=>?_;refine a (λb=>b=H.size) _ c ⟨Sl.mk none 0 0,[],0,0,⟨?_,?_,?_,?_⟩,?_⟩ m (λb e=>by omega)
 ·have:((if (1048576:Int)<(if (0:Int)>q then (0:Int) else q) then (1048576:Int) else (if (0:Int)>q then (0:Int) else q)))=((oe q).quota:Int):=by
   unfold oe;simp only;split<;>split<;>omega
  rw[this] at r2;exact r2
 ·intro i k h;cases h
 ·exact⟨aF.nil _ _ _,rfl,by intro i f g h;simp[oe] at h,by intro i j g g' h;simp at h⟩
 ·exact⟨by simp[oe],by simp[oe,Dk.used],by simp[oe],by simp[oe];omega,by simp[oe],by simp[oe],by intro i k h;cases h⟩
 ·intro b;constructor
  ·exact λe=>.inl e
  ·rintro(e|⟨ad,q,_⟩|⟨g,o,_⟩)
   ·exact e
   ·cases q
   ·simp at o
theorem Ff {F:Nat->Prop}{d:Nat}{s:Dk}{H:aa}{i k:Int}{K:Unit->aa->Prop}(h:cA F H d s)(hi:i<=9223372036854775807)
  (a:∀F' H',cA F' H' d (s.dj i k)->Step F F' H H'->K () H'):K9.sp (aK d) i k H K:=by
 have m:=h;obtain⟨fl,gs,cin,kp,g,f⟩:=h;refine K9.of ?_;unfold K9.vc;simp only[aw];refine g.head.ld (c:=aC) (i:=8) (x:=s.down) rfl ?_;cases hd:s.down with
 |true=>
   refine aR rfl (a F H ?_ (.refl _ _));have:s.dj i k=s:=by unfold Dk.dj;rw[hd];rfl
   rw[this];exact m
 |false=>
   refine aE rfl ?_;have o:s.dj i k={s with crash:=some (max i 0,k)}:=by unfold Dk.dj;rw[hd];rfl
   refine g.head.st (i:=5) (by simp[dq]) (by rfl) λH1 u m1 s1=>?_;refine u.st (i:=6) (by simp[dq]) (by rfl) λG r2 m2 s2=>?_;refine r2.st (i:=7) (by simp[dq]) (by rfl) λH' r' j s'=>?_;have e:(if (0:Int)>i then (0:Int) else i)=max i 0:=by split<;>omega
   rw[e] at r';have v:iL fl gs (max i 0) k H' d (s.dj i k):=by
    rw[o];refine g.dz (s':={s with crash:=some (max i 0,k)}) r' ((m1.trans m2).trans j) rfl (by intro z C q;simp only[RH,RJ] at q;exact q) ⟨g.wf.nodup,g.wf.used,g.wf.most,g.wf.quota,g.wf.files,λ_=>rfl,?_⟩;intro z C q;simp only[RH,RJ] at q;obtain⟨rfl,rfl⟩:=q;omega
   obtain⟨F',D,E⟩:=v.out (fl:=fl) (gs:=gs) (F:=F) (H:=H) f (((m1.trans m2).trans j).mono λb _ e=>(f b).2 (.inl e)) (λb q=>.inl q);exact a F' H' D E
end
section
open Go.MapKept
theorem rj (a:Option hY)(c n:Nat):cM a c 0 n=a:=by
 unfold cM;split
 ·rfl
 ·cases a<;>simp[add_zero']
theorem tv:∀(fs:List Fl) (gs:List (Sl×Sl)) (f:Fl) (g:Sl×Sl),gs.length=fs.length->rQ (fs++[f]) (gs++[g])=rQ fs gs++[(f.name,g.1,g.2)]
 |[],[],f,g,_=>rfl
 |[],_::_,_,_,h=>by simp at h
 |_::_,[],_,_,h=>by simp at h
 |a::fs,b::gs,f,g,h=>by simp[rQ,tv fs gs f g (by simpa using h)]
theorem wk:∀(fs:List Fl) (gs:List (Sl×Sl)) (i:Nat),gs.length=fs.length->rQ (fs.eraseIdx i) (gs.eraseIdx i)=(rQ fs gs).eraseIdx i
 |[],[],_,_=>rfl
 |[],_::_,_,h=>by simp at h
 |_::_,[],_,h=>by simp at h
 |a::fs,b::gs,0,_=>rfl
 |a::fs,b::gs,i+1,h=>by simp[rQ,wk fs gs i (by simpa using h)]
theorem CO:∀(fs:List Fl) (gs:List (Sl×Sl)) (i:Nat) (f:Fl) (g:Sl×Sl),gs.length=fs.length->rQ (fs.set i f) (gs.set i g)=(rQ fs gs).set i (f.name,g.1,g.2)
 |[],[],_,_,_,_=>rfl
 |[],_::_,_,_,_,h=>by simp at h
 |_::_,[],_,_,_,h=>by simp at h
 |a::fs,b::gs,0,_,_,_=>rfl
 |a::fs,b::gs,i+1,f,g,h=>by simp[rQ,CO fs gs i f g (by simpa using h)]
theorem aQ.push {H H':aa}{fl fl':Sl}{gs:List (Sl×Sl)}{fs:List Fl}(h:aQ H fl gs fs){f:Fl}{g:Sl×Sl}(v:aF qS vD H' fl' (rQ fs gs++[(f.name,g.1,g.2)]))
  (hs:aF jL dG H' g.1 f.synced) (hl:aF Ay AO H' g.2 f.log) (hk:∀b,(∃E∈gs,ai E.1 b\/ai E.2 b)->b<H.size->H'[b]?=H[b]?) (o:∀b,ai g.2 b->H.size<=b):aQ H' fl' (gs++[g]) (fs++[f]):=by
 have hlen:=h.len;have ex:∀{α:Type} (l:List α) (a:α) (i:Nat) (x:α),(l++[a])[i]?=some x->(l[i]?=some x/\i<l.length)\/(i=l.length/\x=a):=by
  intro α l a i x u;by_cases hi:i<l.length
  ·rw[Rf hi] at u;exact .inl ⟨u,hi⟩
  ·rw[RK (by omega)] at u;have:i=l.length:=by
    have:=(QJ.1 u).1;simp at this;omega
   subst this;simp at u;exact .inr ⟨rfl,u.symm⟩
 refine⟨by rw[tv _ _ _ _ hlen];exact v,by simp[hlen],?_,?_⟩
 ·intro i f' g' h1 C;rcases ex fs f i f' h1 with ⟨z,G⟩|⟨I,rfl⟩<;>rcases ex gs g i g' C with ⟨m,J⟩|⟨K,rfl⟩
  ·exact⟨(h.ent i f' g' z m).1.ar λb o=>hk b ⟨g',QL m,.inl o⟩,(h.ent i f' g' z m).2.ar λb o=>hk b ⟨g',QL m,.inr o⟩⟩
  ·omega
  ·omega
  ·exact⟨hs,hl⟩
 ·intro i j g1 g2 h1 C D b c e;rcases ex gs g i g1 h1 with ⟨z,G⟩|⟨I,N⟩<;>rcases ex gs g j g2 C with ⟨m,J⟩|⟨K,O⟩
  ·exact h.apart i j g1 g2 z m D b c e
  ·obtain⟨_,_,_,q⟩:=h.zO z;rw[O] at e;have:=q.lt b c;have:=o b e;omega
  ·obtain⟨_,_,_,q⟩:=h.zO m;rw[N] at c;have:=q.lt b e;have:=o b c;omega
  ·omega
theorem aQ.erase {H H':aa}{fl fl':Sl}{gs:List (Sl×Sl)}{fs:List Fl}(h:aQ H fl gs fs){i:Nat}(e:aF qS vD H' fl' ((rQ fs gs).eraseIdx i))
  (hk:∀b,(∃v∈gs,ai v.1 b\/ai v.2 b)->b<H.size->H'[b]?=H[b]?):aQ H' fl' (gs.eraseIdx i) (fs.eraseIdx i):=by
 have back:∀{α:Type} (l:List α) (j:Nat) (a:α),(l.eraseIdx i)[j]?=some a->l[if j<i then j else j+1]?=some a:=by
  intro α l j a f;rw[Ta] at f;split at f
  ·rename_i q;rw[if_pos q];exact f
  ·rename_i q;rw[if_neg q];exact f
 refine⟨by rw[wk _ _ _ h.len];exact e,?_,?_,?_⟩
 ·have:=h.len;simp only[List.length_eraseIdx,this]
 ·intro j f' g' h1 o;have z:=back fs j f' h1;have m:=back gs j g' o;exact⟨(h.ent _ f' g' z m).1.ar λb u=>hk b ⟨g',QL m,.inl u⟩,(h.ent _ f' g' z m).2.ar λb u=>hk b ⟨g',QL m,.inr u⟩⟩
 ·intro a c C gc h1 o D;refine h.apart _ _ C gc (back gs a C h1) (back gs c gc o) ?_;split<;>split<;>omega
theorem aQ.set {H H':aa}{fl:Sl}{gs:List (Sl×Sl)}{fs:List Fl}(h:aQ H fl gs fs){i:Nat}{f f':Fl}{g g':Sl×Sl}(P:fs[i]?=some f)(J:gs[i]?=some g)(E:aF qS vD H' fl ((rQ fs gs).set i (f'.name,g'.1,g'.2)))
  (hs:aF jL dG H' g'.1 f'.synced) (hl:aF Ay AO H' g'.2 f'.log) (hk:∀(j:Nat) (z:Sl×Sl),j≠i->gs[j]?=some z->∀b,(ai z.1 b\/ai z.2 b)->b<H.size->H'[b]?=H[b]?) (D:∀b,ai g'.2 b->ai g.2 b\/H.size<=b):
  aQ H' fl (gs.set i g') (fs.set i f'):=by
 have K:=(QJ.1 P).1;have C:=(QJ.1 J).1;refine⟨by rw[CO _ _ _ _ _ h.len];exact E,by simp[h.len],?_,?_⟩
 ·intro j N z h1 e;rw[Rx] at h1 e;by_cases m:i=j
  ·subst m;rw[if_pos rfl,if_pos K] at h1;rw[if_pos rfl,if_pos C] at e;cases h1;cases e;exact⟨hs,hl⟩
  ·rw[if_neg m] at h1 e;exact⟨(h.ent j N z h1 e).1.ar λb D=>hk j z (Sg m) e b (.inl D),(h.ent j N z h1 e).2.ar λb D=>hk j z (Sg m) e b (.inr D)⟩
 ·intro a c O gc h1 e o b u v;rw[Rx] at h1 e;by_cases G:i=a
  ·subst G;rw[if_neg o] at e;rw[if_pos rfl,if_pos C] at h1;cases h1;obtain⟨_,_,_,q⟩:=h.zO e;have:=q.lt b v;rcases D b u with r|r
   ·exact h.apart i c g gc J e o b r v
   ·omega
  ·rw[if_neg G] at h1;obtain⟨_,_,_,q⟩:=h.zO h1;have:=q.lt b u;by_cases I:i=c
   ·subst I;rw[if_pos rfl,if_pos C] at e;cases e;rcases D b v with r|r
    ·exact h.apart a i O g h1 J o b u r
    ·omega
   ·rw[if_neg I] at e;exact h.apart a c O gc h1 e o b u v
theorem C7 {fl:Sl}{gs:List (Sl×Sl)}{i:Nat}{g g':Sl×Sl}{H:aa}(c:gs[i]?=some g)(h1:∀b,ai g'.1 b->ai g.1 b\/H.size<=b)(e:∀b,ai g'.2 b->ai g.2 b\/H.size<=b):∀b,CI fl (gs.set i g') b->CI fl gs b\/H.size<=b:=by
 rintro b (q|⟨f,a,q⟩)
 ·exact .inl (.inl q)
 ·rcases SH a with r|r
  ·exact .inl (.inr ⟨f,r,q⟩)
  ·subst r;rcases q with q|q
   ·exact(h1 b q).imp (λz=>.inr ⟨g,QL c,.inl z⟩) id
   ·exact(e b q).imp (λz=>.inr ⟨g,QL c,.inr z⟩) id
theorem mR {s:Dk}{n:ByteArray}:decide (mK s n<0)=(s.idx n).isNone:=by
 unfold mK;cases s.idx n with
 |none=>rfl
 |some i=>simp
theorem BT {F:Nat->Prop}{d:Nat}{s:Dk}{H:aa}{n:ByteArray}{K:Int->aa->Prop}(h:cA F H d s)
  (C:∀F' H',cA F' H' d (s.create n).1->Step F F' H H'->K (s.create n).2 H'):Ml.sp (aK d) n H K:=by
 have h0:=h;obtain⟨fl,gs,cin,kp,g,I⟩:=h;refine Ml.of ?_;unfold Ml.vc;simp only[aw];have stay:∀e:Int,s.create n=(s,e)->K e H:=by
  intro e he;have:=C F H (by rw[he];exact h0) (.refl _ _);rw[he] at this;exact this
 have V:=g.wf.files;refine g.head.ld (c:=aC) (i:=8) (x:=s.down) rfl ?_;cases hd:s.down with
 |true=>exact stay 4 (by unfold Dk.create;rw[hd];rfl)
 |false=>
   refine aE rfl ?_;refine Es ?_;refine ah (λhn=>stay 2 ?_) (λhn=>?_)
   ·unfold Dk.create;rw[hd];simp at hn;simp[hn]
   simp at hn;refine lk g.head rfl g.files V ?_;refine ah (λhi=>stay 10 ?_) (λhi=>?_)
   ·have:(s.idx n).isSome:=by
     unfold mK at hi;cases Y:s.idx n with
     |none=>rw[Y] at hi;simp at hi
     |some i=>rfl
    unfold Dk.create;rw[hd];simp[hn,this]
   have D:s.idx n=none:=by
    unfold mK at hi;cases Y:s.idx n with
    |none=>rfl
    |some i=>rw[Y] at hi;simp at hi
   refine g.head.ld (c:=aq) (i:=0) (x:=fl) rfl ?_;have af:=g.files.n;refine ah (λhl=>stay 3 ?_) (λhl=>?_)
   ·unfold Dk.create;rw[hd];simp at hl;simp[hn,D,show s.files.length=4096 by omega]
   have J:s.files.length≠4096:=by simp at hl;omega
   have Z:s.create n=s.step λt=>{t with files:=t.files++[⟨n,[],[]⟩]}:=by unfold Dk.create;rw[hd];simp[hn,D,J]
   rw[Z] at C;unfold Dk.step at C;refine lD g λN H3 g3 m3 s3=>?_;have u:=s.bu;refine ah (λhz=>?_) (λhz=>?_)
   ·have v:s.change.2=0:=by simpa using hz
    rw[if_pos v] at C;rw[v];refine g3.head.ld (c:=aq) (i:=0) (x:=fl) rfl ?_;have j:=fI s.change.1.files gs g3.files.len;refine aF.push (E:=qS) KN (x:=(n,Sl.mk none 0 0,Sl.mk none 0 0)) g3.files.arr rfl (by rw[j,u];omega) (by rw[j,u];omega) λs5 H5 o5 g5 _=>?_;have off:=iL.off g3.head g3.files;have d5:=g3.head.mod g5.1 (λa=>off (.inl a));refine d5.st (i:=0) (by simp[dq]) (by rfl) λH6 r6 m6 s6=>?_;have O:∀b,ai s5 b->b≠d:=λb a e=>by
     obtain⟨c,q⟩:=o5.obj b a;rw[e] at q;exact absurd (aM d5 q) (by decide)
    have m:∀b,(∃G∈gs,ai G.1 b\/ai G.2 b)->¬ai fl b:=by
     rintro b ⟨G,o,a⟩ P;obtain⟨i,hi⟩:=QU.1 o;obtain⟨_,_,R,S⟩:=g3.files.zO hi;rcases a with a|a
     ·exact(R.apart g3.files.arr (by decide)) b a P
     ·exact(S.apart g3.files.arr (by decide)) b a P
    have fB:=g3.files.push (H':=H6) (fl':=s5) (f:=⟨n,[],[]⟩) (g:=(Sl.mk none 0 0,Sl.mk none 0 0)) (o5.ar λb a hl=>m6.same b hl (O b a)) (aF.nil _ _ _) (aF.nil _ _ _) (λb a hl=>(m6.same b (by have:=g5.1.size;omega) (λe=>off (.inr (by
      obtain⟨G,o,q⟩:=a;exact⟨G,o,by rw[<-e];exact q⟩)))).trans (g5.1.same b hl (m b a))) (by rintro b ⟨ad,q,_⟩;cases q)
    have T:s.change.1.idx n=none:=by unfold Dk.idx;rw[u];exact D
    have gg:iL s5 (gs++[(Sl.mk none 0 0,Sl.mk none 0 0)]) N kp H6 d {s.change.1 with files:=s.change.1.files++[⟨n,[],[]⟩]}:=
     ⟨r6,g3.crash,fB,g3.wf.push T (by rw[u];exact J)⟩
    obtain⟨F',R,S⟩:=gg.out (fl:=fl) (gs:=gs) (F:=F) (H:=H) I (((m3.mono λb _ e=>(I b).2 (.inl e)).trans (g5.1.mono λb _ e=>(I b).2 (.inr (.inl e)))).trans (m6.mono λb _ e=>(I b).2 (.inl e))) (by
     rintro b (q|⟨G,o,q⟩)
     ·exact(g5.2 b q).imp (λz=>.inl z) (λz=>by omega)
     ·rcases QQ.1 o with r|r
      ·exact .inl (.inr ⟨G,r,q⟩)
      ·simp at r;subst r;rcases q with ⟨ad,q,_⟩|⟨ad,q,_⟩<;>cases q)
    exact C F' H6 R S
   ·have v:s.change.2≠0:=by simpa using hz
    rw[if_neg v] at C;obtain⟨F',R,S⟩:=g3.out (fl:=fl) (gs:=gs) (F:=F) (H:=H) I (m3.mono λb _ e=>(I b).2 (.inl e)) (λb q=>.inl q);exact C F' H3 R S
theorem FT {fl:Sl}{gs:List (Sl×Sl)}{cin kp:Int}{d:Nat}{s:Dk}{H:aa}{i:Nat}{K:Unit->aa->Prop}(h:iL fl gs cin kp H d s)(hi:i<s.files.length)
  (D:∀fl' H',iL fl' (gs.eraseIdx i) cin kp H' d {s with files:=s.files.eraseIdx i}->Mod (λb=>b=d) H H'->(∀b,ai fl' b->H.size<=b)->K () H'):K0.sp (aK d) i H K:=by
 refine K0.of ?_;unfold K0.vc;simp only[aw];have G:=h.wf.files;have hn:=h.files.n;have o:=h.files.arr.cap;have hlen:=fI s.files gs h.files.len;refine h.head.ld (c:=aq) (i:=0) (x:=fl) rfl ?_;refine⟨⟨by omega,by omega⟩,?_⟩;have t1:bX qS H (cM fl.a fl.c 0 3) ((rQ s.files gs).take i):=by rw[rj];exact h.files.arr.rd.take
 refine aF.append (E:=qS) KN (s:=Sl.mk none 0 0) (x:=⟨cM fl.a fl.c 0 3,(i:Int).toNat - 0,fl.c - 0⟩) (l:=[]) (aF.nil _ _ _) t1 (by simp;omega) (by simp;omega) (by simp;omega) λu H1 I g1 _=>?_;have f1:∀b,ai u b->H.size<=b:=λb a=>(g1.2 b a).resolve_left (by rintro⟨ad,q,_⟩;cases q);have m1:Mod (λ_=>False) H H1:=g1.1.mono λb _ a=>by obtain⟨ad,q,_⟩:=a;cases q
 have h1:=h.head.ext m1;have J:aF qS vD H1 fl (rQ s.files gs):=h.files.arr.ext m1;refine h1.ld (c:=aq) (i:=0) (x:=fl) rfl ?_;have hw:QI.wrap ((i:Int)+1)=((i+1:Nat):Int):=aD i (by omega);simp only[hw];refine⟨⟨by omega,by omega⟩,?_⟩;have t2:bX qS H1 (cM fl.a fl.c (i+1) 3) ((rQ s.files gs).drop (i+1)):=bX.drop J.rd (by rw[hlen];omega);simp only[QP];refine aF.append (E:=qS) KN (s:=u) (x:=⟨cM fl.a fl.c (i+1) 3,fl.n - (i+1),fl.c - (i+1)⟩) I t2 (by simp[hlen];omega) (by simp[hlen];omega) (by simp[hlen];omega) λv N z g2 _=>?_;have V:=m1.size;have z2:=g2.1.size;have O:ao N d yo _:=h1.mod g2.1 (λa=>by have:=f1 _ a;have:=aI h.head;omega);refine O.st (i:=0) (by simp[dq]) (by rfl) λf P m3 Y=>?_;have f2:∀b,ai v b->H.size<=b:=λb a=>by
  rcases g2.2 b a with q|q
  ·exact f1 b q
  ·omega
 have R:=aI h.head;have off:=iL.off h.head h.files;have C:Mod (λb=>b=d) H f:=⟨by omega,λb a j=>(m3.same b (by omega) j).trans ((g2.1.same b (by omega) λS=>by have:=f1 b S;omega).trans (m1.same b a id))⟩;refine D v f ⟨P,h.crash,?_,h.wf.sub hi rfl rfl rfl rfl rfl⟩ C f2;refine h.files.erase (H':=f) ?_ (λb a hl=>C.same b hl λe=>off (.inr (by obtain⟨T,m,q⟩:=a;exact⟨T,m,by rw[<-e];exact q⟩)));rw[WS];simp only[SY] at z;exact z.ar λb a hl=>m3.same b hl λe=>by have:=f2 b a;omega
end
section
open Go.MapKept
theorem Bl {H:aa}{fl:Sl}{l:List (ByteArray×Sl×Sl)}(h:aF qS vD H fl l){i j:Nat}{x y:ByteArray×Sl×Sl}{v:gp}(hi:l[i]?=some x)(e:j<3)(f:jJ v=true)(m:qS.enc y=(qS.enc x).set j v){K:aa->Prop}
  (o:∀H',aF qS vD H' fl (l.set i y)->Mod (ai fl) H H'->H'.size=H.size->K H'):ae fl.a λa=>(0<=(i:Int)/\(i:Int)<(fl.n:Int))/\st H ((a.add ((i:Int).toNat*3)).add j) v K:=by
 have q:=(QJ.1 hi).1;have hn:=h.n (by decide);obtain⟨ad,c⟩:=bX.addr h.rd (by decide) (by omega);rw[c];refine⟨⟨by omega,by omega⟩,?_⟩;exact aF.st (E:=qS) h c hi e f m (by simp[qS]) o
theorem aQ.gX {H:aa}{fl:Sl}{gs:List (Sl×Sl)}{fs:List Fl}(h:aQ H fl gs fs){i:Nat}{g:Sl×Sl}(e:gs[i]?=some g):∀b,(ai g.1 b\/ai g.2 b)->¬ai fl b:=by
 intro b a c;obtain⟨_,_,f,j⟩:=h.zO e;rcases a with a|a
 ·exact(f.apart h.arr (by decide)) b a c
 ·exact(j.apart h.arr (by decide)) b a c
theorem Ck {F:Nat->Prop}{d:Nat}{s:Dk}{H:aa}{n:ByteArray}{K:Int->aa->Prop}(h:cA F H d s)
  (a:∀F' H',cA F' H' d (s.remove n).1->Step F F' H H'->K (s.remove n).2 H'):LO.sp (aK d) n H K:=by
 have J:=h;obtain⟨fl,gs,cin,kp,g,o⟩:=h;refine LO.of ?_;unfold LO.vc;simp only[aw];have stay:∀e:Int,s.remove n=(s,e)->K e H:=by
  intro e he;have:=a F H (by rw[he];exact J) (.refl _ _);rw[he] at this;exact this
 have u:=g.wf.files;refine g.head.ld (c:=aC) (i:=8) (x:=s.down) rfl ?_;refine ah (λhd=>stay 4 (by unfold Dk.remove;rw[hd];rfl)) (λhd=>?_);refine lk g.head rfl g.files u ?_;rw[mR];cases hi:s.idx n with
 |none=>exact stay 11 (by unfold Dk.remove;rw[hd,hi];rfl)
 |some i=>
   refine aE rfl ?_;have N:s.remove n=s.step λt=>t.drop n:=by unfold Dk.remove;rw[hd,hi];rfl
   rw[N] at a;unfold Dk.step at a;refine lD g λI O g3 m3 V=>?_;have v:=s.bu;refine ah (λz=>?_) (λz=>?_)
   ·have j:s.change.2=0:=by simpa using z
    rw[if_pos j] at a;rw[j];have m:s.change.1.idx n=some i:=by unfold Dk.idx;rw[v];exact hi
    refine lk g3.head rfl g3.files (by rw[v];exact u) ?_;have P:mK s.change.1 n=(i:Int):=by unfold mK;rw[m]
    rw[P];obtain⟨f,R,_⟩:=Dk.cw m;refine FT g3 (QJ.1 R).1 λfl' S g4 m4 f4=>?_;have C:s.change.1.drop n={s.change.1 with files:=s.change.1.files.eraseIdx i}:=by unfold Dk.drop;rw[m]
    dsimp only at a;rw[C] at a;obtain⟨F',D,E⟩:=g4.out (fl:=fl) (gs:=gs) (F:=F) (H:=H) o ((m3.mono λb _ e=>(o b).2 (.inl e)).trans (m4.mono λb _ e=>(o b).2 (.inl e))) (by
     rintro b (q|⟨T,G,q⟩)
     ·have:=f4 b q;right;omega
     ·exact .inl (.inr ⟨T,Se G,q⟩))
    exact a F' S D E
   ·have j:s.change.2≠0:=by simpa using z
    rw[if_neg j] at a;obtain⟨F',D,E⟩:=g3.out (fl:=fl) (gs:=gs) (F:=F) (H:=H) o (m3.mono λb _ e=>(o b).2 (.inl e)) (λb q=>.inl q);exact a F' O D E
theorem nZ {F:Nat->Prop}{d:Nat}{s:Dk}{H:aa}{n:ByteArray}{K:(Int×Int)->aa->Prop}(h:cA F H d s)(m:s.aH<68719476736)(a:∀H',Mod (λ_=>False) H H'->K ((s.len n).1,(s.len n).2) H'):DQ.sp (aK d) n H K:=by
 obtain⟨fl,gs,cin,kp,g,_⟩:=h;refine DQ.of ?_;unfold DQ.vc;simp only[aw];refine lk g.head rfl g.files g.wf.files ?_;refine g.head.ld (c:=aC) (i:=8) (x:=s.down) rfl ?_;refine ah (λhd=>?_) (λhd=>?_)
 ·have e:s.len n=(0,4):=by unfold Dk.len Dk.open;rw[hd];rfl
  rw[e] at a;exact a H (.refl _ _)
 ·rw[mR];cases hi:s.idx n with
  |none=>
    have e:s.len n=(0,11):=by unfold Dk.len Dk.open;rw[hd,hi];rfl
    rw[e] at a;exact a H (.refl _ _)
  |some i=>
    refine aE rfl ?_;obtain⟨f,j,_⟩:=Dk.cw hi;obtain⟨G,o,q,u⟩:=g.files.Dl j;have v:mK s n=(i:Int):=by unfold mK;rw[hi]
    rw[v];refine g.head.ld (c:=aq) (i:=0) (x:=fl) rfl ?_;refine g.files.Ob j o ?_;have z:=Dk.fm j;have C:=Dk.kM j;have I:=g.wf.used;have J:=g.wf.most;have N:=g.wf.quota;refine mw q u (by omega) (by omega) λl D E m2 _=>?_;have e:s.len n=(f.az.length,0):=by unfold Dk.len Dk.open;rw[hd,hi];simp[Dk.dI j]
    rw[e] at a;rw[E.n (by decide)];exact a D m2
theorem nr {b:List UInt8}{H:aa}{K:Sl->aa->Prop}(e:∀s' H',bW H' s' b->Mod (λ_=>False) H H'->(∀q,ai s' q->H.size<=q)->s'.n<=s'.c->K s' H'):
  bf aq QH (convert dG eK (.string (cP b))) H K:=by
 intro w hw;subst hw;have f:=run_bytes_of_string (P:=QH) w dG eK fU (cP b) (by kernel_rfl) (by kernel_rfl) (by kernel_rfl);have a:(cP b).size=b.length:=by simp[cP,ByteArray.size]
 refine⟨_,_,f,⟨⟨some ⟨w.heap.size,0,none⟩,(cP b).size,grownCap w (cP b).size 0 fU⟩,rfl,e _ _ ⟨by simp[eV,a],?_⟩ (Mod.push _ _ _) ?_ (grownCap_ge _ _ _ _)⟩,(.of_le rfl (RB _))⟩
 ·intro i v c;rw[gZ] at c;refine⟨_,rfl,?_⟩;rw[bg];have hi:i<b.length:=by have:=(QJ.1 c).1;simpa[gP] using this
  have h:(bytesRow (cP b) (grownCap w (cP b).size 0 fU))[i]?=some v:=by
   unfold bytesRow;rw[Array.getElem?_append_left (by simp[cP];exact hi)];rw[<-c];simp[cP,gP]
  exact cC (t:=fU) (fz:=((bytesRow (cP b) (grownCap w (cP b).size 0 fU)).size,(bytesRow (cP b) (grownCap w (cP b).size 0 fU)).size+1)) (by show (w.heap.push _)[w.heap.size]?=_;simp) h
 ·rintro q ⟨ad,j,m⟩;cases j;have:w.heap.size=q:=m;omega
theorem Cl {b:List UInt8}{H:aa}{K:Sl->aa->Prop}(a:∀s' H',bW H' s' b->Mod (λ_=>False) H H'->(∀q,ai s' q->H.size<=q)->K s' H'):
  bf aq QH (convert dG eK (.string (cP b))) H K:=nr λs' H' h1 c e _=>a s' H' h1 c e
theorem bW.nil (H:aa):bW H (Sl.mk none 0 0) []:=⟨rfl,Reads.nil _ _⟩
theorem vT {F:Nat->Prop}{d:Nat}{s:Dk}{H:aa}{n:ByteArray}{page:Int}{K:(Sl×Int)->aa->Prop}(h:cA F H d s)(v:s.aH<68719476736)
  (z:∀r H',bW H' r (s.read n page).1->Mod (λ_=>False) H H'->(∀b,ai r b->H.size<=b)->r.n<=r.c->K (r,(s.read n page).2) H'):EZ.sp (aK d) n page H K:=by
 obtain⟨fl,gs,cin,kp,g,_⟩:=h;refine EZ.of ?_;unfold EZ.vc;simp only[aw];have err:∀(e:Int) (A:aa),Mod (λ_=>False) H A->s.read n page=([],e)->K (Sl.mk none 0 0,e) A:=by
  intro e A I he;have:=z (Sl.mk none 0 0) A (by rw[he];exact bW.nil _) I (by rintro b ⟨ad,q,_⟩;cases q) (QN _);rw[he] at this;exact this
 refine lk g.head rfl g.files g.wf.files ?_;refine g.head.ld (c:=aC) (i:=8) (x:=s.down) rfl ?_;refine ah (λhd=>?_) (λhd=>?_)
 ·exact err 4 H (.refl _ _) (by unfold Dk.read Dk.open;rw[hd];rfl)
 rw[mR];cases hi:s.idx n with
 |none=>exact err 11 H (.refl _ _) (by unfold Dk.read Dk.open;rw[hd,hi];rfl)
 |some i=>
   refine aE rfl ?_;obtain⟨f,m,_⟩:=Dk.cw hi;obtain⟨gg,J,N,O⟩:=g.files.Dl m;have a:s.file i=f:=Dk.dI m;have E:s.read n page=if page<0 then ([],(12:Int)) else match f.az[page.toNat]? with|some p=>(p.1,(0:Int))|none=>([],(12:Int)):=by
    unfold Dk.read Dk.open;rw[hd,hi];simp[a];rfl
   have P:mK s n=(i:Int):=by unfold mK;rw[hi]
   rw[P];refine g.head.ld (c:=aq) (i:=0) (x:=fl) rfl ?_;refine g.files.Ob m J ?_;have R:=Dk.fm m;have S:=Dk.kM m;have w1:=g.wf.used;have w2:=g.wf.most;have w3:=g.wf.quota;refine mw N O (by omega) (by omega) λl T C m2 f2=>?_;have V:=C.n (by decide);refine ah (λj=>?_) (λj=>?_)
   ·refine err 12 T m2 ?_;simp only[Sc,decide_eq_true_eq] at j;rw[E];rcases j with j|j
    ·rw[if_pos j]
    ·by_cases o:page<0
     ·rw[if_pos o]
     ·rw[if_neg o,Th (by omega)]
   ·simp only[Sp,decide_eq_false_iff_not] at j;obtain⟨pg,rfl⟩:∃k:Nat,page=k:=⟨page.toNat,by omega⟩;have D:pg<f.az.length:=by omega
    obtain⟨ad,G⟩:=bX.addr C.rd (by decide) (by omega);rw[G];refine⟨⟨by omega,by omega⟩,?_⟩;have u:f.az[pg]?=some f.az[pg]:=QK D;simp only[QP];refine aF.one (c:=aN) (y:=cP f.az[pg].1) C u rfl rfl G ?_;refine nr λr Y Z m3 f3 c3=>?_;have er:s.read n pg=(f.az[pg].1,0):=by
     rw[E,if_neg (by omega)];simp[u]
    rw[er] at z;exact z r Y Z (m2.trans m3) (λb hb=>by have:=f3 b hb;have:=m2.size;omega) c3
theorem HN {F:Nat->Prop}{d:Nat}{s:Dk}{H:aa}{n:ByteArray}{page:Int}{K:(Sl×Int)->aa->Prop}(h:cA F H d s)(a:s.aH<68719476736)
  (c:∀r H',bW H' r (s.read n page).1->Mod (λ_=>False) H H'->(∀b,ai r b->H.size<=b)->K (r,(s.read n page).2) H'):EZ.sp (aK d) n page H K:=
 vT h a λr H' h1 e f _=>c r H' h1 e f
theorem HO {F:Nat->Prop}{d:Nat}{s:Dk}{H:aa}{n:ByteArray}{K:Int->aa->Prop}(h:cA F H d s)(O:s.aH<68719476736)
  (D:∀F' H',cA F' H' d (s.sync n).1->Step F F' H H'->K (s.sync n).2 H'):LZ.sp (aK d) n H K:=by
 have h0:=h;obtain⟨fl,gs,cin,kp,g,E⟩:=h;refine LZ.of ?_;unfold LZ.vc;simp only[aw];have stay:∀e:Int,s.sync n=(s,e)->K e H:=by
  intro e he;have:=D F H (by rw[he];exact h0) (.refl _ _);rw[he] at this;exact this
 refine lk g.head rfl g.files g.wf.files ?_;refine g.head.ld (c:=aC) (i:=8) (x:=s.down) rfl ?_;refine ah (λhd=>stay 4 (by unfold Dk.sync;rw[hd];rfl)) (λhd=>?_);rw[mR];cases hi:s.idx n with
 |none=>exact stay 11 (by unfold Dk.sync;rw[hd,hi];rfl)
 |some i=>
   refine aE rfl ?_;have hr:s.sync n=s.step λt=>t.IL i λf=>{f with synced:=f.az,log:=[]}:=by unfold Dk.sync;rw[hd,hi];rfl
   rw[hr] at D;unfold Dk.step at D;refine lD g λu P g3 m3 s3=>?_;have R:=s.bu;obtain⟨k1,k2,k3,k4⟩:=s.ni;obtain⟨f,S,_⟩:=Dk.cw hi;have a:s.change.1.files[i]?=some f:=by rw[R];exact S
   refine ah (λT=>?_) (λT=>?_)
   ·have o:s.change.2=0:=by simpa using T
    rw[if_pos o] at D;rw[o];generalize s.change.1=t at*;obtain⟨V,N,Y,Z⟩:=g3.files.Dl a;have hx:mK s n=(i:Int):=by unfold mK;rw[hi]
    rw[hx];refine⟨λA=>ao A d yo (dq fl t.most t.quota t.ops t.next t.crash.isSome u kp t.down),g3.head,?_⟩;refine⟨fl,λA hA=>by rw[bg];exact hA.cell rfl,?_⟩;refine g3.head.ld (c:=aq) (i:=0) (x:=fl) rfl ?_;refine g3.files.Ob a N ?_;have a1:=Dk.fm S;have a7:=Dk.kM S;have w1:=g.wf.used;have w2:=g.wf.most;have w3:=g.wf.quota;refine mw Y Z (by omega) (by omega) λl H4 o4 m4 f4=>⟨g3.head.ext m4,?_⟩;have a4:aF qS vD H4 fl (rQ t.files gs):=g3.files.arr.ext m4;have z:=nF _ _ i f V a N;refine Bl a4 z (j:=1) (v:=l.v) (by omega) rfl (y:=(f.name,l,V.2)) rfl λH5 a5 m5 s5=>?_;have C:=iL.off g3.head g3.files;have d5:=(g3.head.ext m4).mod m5 (λm=>C (.inl m));refine d5.ld (c:=aq) (i:=0) (x:=fl) rfl ?_;have af:=(QJ.1 z).1;refine Bl a5 (i:=i) (j:=2) (x:=(f.name,l,V.2)) (v:=.slice none 0 0) (by simp[af]) (by omega) rfl (y:=(f.name,l,Sl.mk none 0 0)) rfl λG a6 m6 s6=>?_;rw[Xe] at a6;have z4:=m4.size;have I:Mod (ai fl) P G:=(((Ext.mod m4).trans m5).trans m6);have d6:=d5.mod m6 (λm=>C (.inl m));have J:∀b,ai l b->¬ai fl b:=o4.apart a4 (by decide);have fB:=g3.files.set (H':=G) a N (f':={f with synced:=f.az,log:=[]}) (g':=(l,Sl.mk none 0 0)) a6 (o4.ar λb m hl=>(m6.same b (by omega) (J b m)).trans (m5.same b hl (J b m))) (aF.nil _ _ _)
     (λj gj _ al b m hl=>I.same b hl (g3.files.gX al b m)) (by rintro b ⟨ad,q,_⟩;cases q)
    have hu:=Dk.jA (s:=t) (g:=λf=>{f with synced:=f.az,log:=[]}) a;have an:(t.IL i λf=>{f with synced:=f.az,log:=[]}).used=t.used:=by
     have e:({f with synced:=f.az,log:=[]}:Fl).az.length=f.az.length:=rfl;omega
    have gG:iL fl (gs.set i (l,Sl.mk none 0 0)) u kp G d (t.IL i λf=>{f with synced:=f.az,log:=[]}):=by
     refine⟨d6,g3.crash,?_,g3.wf.modify (g:=λf=>{f with synced:=f.az,log:=[]}) a rfl rfl (by rw[an];exact g3.wf.used) g3.wf.most rfl rfl rfl⟩;show aQ G fl _ (t.files.modify i λf=>{f with synced:=f.az,log:=[]});rw[bm a];exact fB
    obtain⟨F',r1,r2⟩:=gG.out (fl:=fl) (gs:=gs) (F:=F) (H:=H) E ((m3.mono λb _ e=>(E b).2 (.inl e)).trans (I.mono λb _ e=>(E b).2 (.inr (.inl e)))) (λb m=>(C7 (H:=P) N (λb m=>.inr (f4 b m)) (by rintro b ⟨ad,q,_⟩;cases q) b m).imp id (λq=>by omega));exact D F' G r1 r2
   ·have o:s.change.2≠0:=by simpa using T
    rw[if_neg o] at D;obtain⟨F',Y,Z⟩:=g3.out (fl:=fl) (gs:=gs) (F:=F) (H:=H) E (m3.mono λb _ e=>(E b).2 (.inl e)) (λb q=>.inl q);exact D F' P Y Z
set_option maxHeartbeats 1000000 in
theorem vZ {F:Nat->Prop}{d:Nat}{s:Dk}{H:aa}{n:ByteArray}{page:Int}{p3:Sl}{b:List UInt8}{K:Int->aa->Prop}(h:cA F H d s)(a:bW H p3 b)(bl:∀ad,p3.a=some ad->¬F ad.block)(bD:s.aH+1<68719476736)
  (Z:∀F' H',cA F' H' d (s.write n page b).1->Step F F' H H'->K (s.write n page b).2 H'):IN.sp (aK d) n page p3 H K:=by
 have h0:=h;have b5:=h.lt;obtain⟨fl,gs,cin,kp,g,hF⟩:=h;refine IN.of ?_;unfold IN.vc;simp only[aw];have stay:∀(e:Int) (A:aa),Mod (λ_=>False) H A->s.write n page b=(s,e)->K e A:=by
  intro e A G he;have:=Z F A (by rw[he];exact h0.ar λb a hl=>G.same b hl id) ⟨Ext.mod G,λb a=>.inl a⟩;rw[he] at this;exact this
 have b6:=a.n;refine lk g.head rfl g.files g.wf.files ?_;refine g.head.ld (c:=aC) (i:=8) (x:=s.down) rfl ?_;refine ah (λhd=>stay 4 H (.refl _ _) (by unfold Dk.write;rw[hd];rfl)) (λhd=>?_);refine ah (λal=>stay 2 H (.refl _ _) ?_) (λal=>?_)
 ·have:b.length≠512:=by simp at al;omega
  unfold Dk.write;rw[hd];simp[this]
 have m:b.length=512:=by simp at al;omega
 rw[mR];cases hi:s.idx n with
 |none=>
   refine aR rfl (stay 11 H (.refl _ _) ?_);unfold Dk.write;rw[hd];simp[m,hi]
 |some i=>
   refine aE rfl ?_;obtain⟨f,hf,b7⟩:=Dk.cw hi;obtain⟨o,T,q1,q2⟩:=g.files.Dl hf;have D:s.file i=f:=Dk.dI hf;have hx:mK s n=(i:Int):=by unfold mK;rw[hi]
   simp only[hx];have b9:=Dk.fm hf;have cb:=Dk.kM hf;have w1:=g.wf.used;have w2:=g.wf.most;have w3:=g.wf.quota;have bM:page<0\/page>f.az.length->s.write n page b=(s,12):=by
    intro hp;unfold Dk.write;rw[hd];simp only[SL,if_false,m,dif_pos,hi,D];rw[if_pos hp]
   have e5:¬(page<0\/page>f.az.length)->page=f.az.length->s.used>=s.quota->s.write n page b=(s,5):=by
    intro hp h1 h2;unfold Dk.write;rw[hd];simp only[SL,if_false,m,dif_pos,hi,D];rw[if_neg hp,if_pos ⟨h1,h2⟩]
   refine g.head.ld (c:=aq) (i:=0) (x:=fl) rfl ?_;refine g.files.Ob hf T ?_;refine mw q1 q2 (by omega) (by omega) λl H2 o2 m2 f2=>?_;have ck:=o2.n (by decide);refine⟨λ_ A=>Mod (λ_=>False) H A/\¬(page<0\/page>f.az.length)/\¬(page=f.az.length/\s.used>=s.quota),?_,?_⟩
   ·refine ah (λhp=>stay 12 H2 m2 (bM ?_)) (λhp=>?_)
    ·simp only[Sc,decide_eq_true_eq] at hp;omega
    have N:¬(page<0\/page>f.az.length):=by simp only[Sp,decide_eq_false_iff_not] at hp;omega
    refine⟨λA=>ao A d yo (dq fl s.most s.quota s.ops s.next s.crash.isSome cin kp s.down),g.head.ext m2,?_⟩;refine ah (λhe=>?_) (λhe=>⟨m2,N,λJ=>by simp at he;omega⟩);have bN:page=f.az.length:=by simp at he;omega
    have f22:aQ H2 fl gs s.files:=g.files.ar λb a hl=>m2.same b hl id;refine wN (g.head.ext m2) rfl f22 (by omega) g.wf.files (by omega) λH4 m4=>⟨(g.head.ext m2).ext m4,?_⟩;refine⟨(s.quota:Int),λA G=>by rw[bg];exact G.cell rfl,?_⟩;refine ah (λhq=>stay 5 H4 (m2.trans m4) (e5 N bN (by simp at hq;omega))) (λhq=>⟨m2.trans m4,N,λJ=>by simp at hq;omega⟩)
   ·rintro _ H0 ⟨m0,N,bO⟩;obtain⟨pg,rfl⟩:∃k:Nat,page=k:=⟨page.toNat,by omega⟩;have cm:pg<=f.az.length:=by omega
    obtain⟨wr,bn⟩:∃wr:Dk->Wr,wr=λt=>⟨t.next,pg,⟨b,m⟩⟩:=⟨_,rfl⟩;have hr:s.write n pg b=s.step λt=>(t.gI i (wr t)).jw (max t.most (t.gI i (wr t)).used):=by
     unfold Dk.write;rw[hd];simp only[SL,if_false,m,dif_pos,hi,D];rw[if_neg N,if_neg bO,bn];rfl
    rw[hr] at Z;unfold Dk.step at Z;have g0:iL fl gs cin kp H0 d s:=⟨g.head.ext m0,g.crash,g.files.ar λb a hl=>m0.same b hl id,g.wf⟩;refine lD g0 λu H4 g4 m4 s4=>?_;have an:Mod F H H4:=(Ext.mod m0).trans (m4.mono λb _ e=>(hF b).2 (.inl e));have z0:=m0.size;refine ah (λhz=>?_) (λhz=>?_)
    ·have a1:s.change.2≠0:=by simpa using hz
     rw[if_neg a1] at Z;obtain⟨F',r1,r2⟩:=g4.out (fl:=fl) (gs:=gs) (F:=F) (H:=H) hF an (λb q=>.inl q);exact Z F' H4 r1 r2
    have a1:s.change.2=0:=by simpa using hz
    rw[if_pos a1] at Z;dsimp only at Z;obtain⟨k1,k2,k3,k4⟩:=s.ni;have bs:=s.bu;generalize ht:s.change.1=t at*;have z:t.files[i]?=some f:=by rw[bs];exact hf
    obtain⟨bx,a6⟩:=g4.files.ent i f o z T;have C:=iL.off g4.head g4.files;have bb:bW H4 p3 b:=a.ar λad S hl=>an.same _ hl (bl ad S);have V:=QL T;have O:=nF _ _ i f o z T;have b0:∀ad,p3.a=some ad->¬ai o.2 ad.block:=λad S J=>bl ad S ((hF _).2 (.inr (.inr ⟨o,V,.inr J⟩)));have I:∀b,ai o.2 b->¬ai fl b:=λb a=>g4.files.gX T b (.inr a);have af:¬ai o.2 d:=λJ=>C (.inr ⟨o,V,.inr J⟩);refine⟨λA=>ao A d yo (dq fl t.most t.quota t.ops t.next t.crash.isSome u kp t.down)/\aF qS vD A fl (rQ t.files gs)/\bW A p3 b,⟨g4.head,g4.files.arr,bb⟩,?_⟩;refine⟨fl,λA G=>by rw[bg];exact G.1.cell rfl,?_⟩;refine⟨fl,λA G=>by rw[bg];exact G.1.cell rfl,?_⟩;obtain⟨ad,S⟩:=bX.addr g4.files.arr.rd (by decide) (by have:=(QJ.1 O).1;omega);have cx:=g4.files.n;have cy:=(QJ.1 z).1;rw[S];refine⟨⟨by omega,by omega⟩,?_⟩;refine⟨o.2,λA G=>?_,?_⟩
    ·obtain⟨cz,e1,hc⟩:=bX.cell G.2.1.rd O (j:=2) (v:=o.2.v) rfl;rw[S] at e1;cases e1;rw[add_add];exact hc
    refine g4.head.ld (c:=ab .i64) (i:=4) (x:=t.next) rfl ?_;refine⟨cP b,λA G=>G.2.2.Lj,?_⟩;have bA:wr t=⟨t.next,pg,⟨b,m⟩⟩:=by rw[bn]
    refine aF.CF (E:=Ay) OJ (x:=wr t) a6 (by rw[bA];rfl) (by omega) (by omega) _ (λH6 s6 m6=>⟨g4.head.ext m6,g4.files.arr.ext m6,bb.ar λad S hl=>m6.same _ hl id⟩) λs7 H7 o7 g7 _=>?_;refine⟨⟨g4.head.mod g7.1 af,g4.files.arr.ar λb a hl=>g7.1.same b hl λJ=>I b J a,bb.ar λad S hl=>g7.1.same _ hl (b0 ad S)⟩,?_⟩;rw[<-S];have a7:aF qS vD H7 fl (rQ t.files gs):=g4.files.arr.ar λb a hl=>g7.1.same b hl λJ=>I b J a;refine Bl a7 O (j:=2) (v:=s7.v) (by omega) rfl (y:=(f.name,o.1,s7)) rfl λH8 a8 m8 s8=>?_;have d7:=g4.head.mod g7.1 af;have d8:ao H8 d yo (dq fl t.most t.quota t.ops t.next t.crash.isSome u kp t.down):=d7.mod m8 (λa=>C (.inl a));refine d8.ld (c:=ab .i64) (i:=4) (x:=t.next) rfl ?_;refine d8.st (i:=4) (by simp[dq]) (by rfl) λH9 d9 m9 s9=>?_;have P:ao H9 d yo (dq fl t.most t.quota t.ops (fT (t.next+1)) t.crash.isSome u kp t.down):=d9;have z7:=g7.1.size;have bB:∀b,ai s7 b->¬ai fl b:=o7.apart a7 (by decide);have b1:∀b,ai s7 b->b≠d:=λb a e=>by
     obtain⟨c,q⟩:=o7.obj b a;rw[e] at q;exact absurd (aM d7 q) (by decide)
    have fB:=g4.files.set (H':=H9) z T (f':={f with log:=f.log++[wr t]}) (g':=(o.1,s7)) (a8.ar λb a hl=>m9.same b hl λe=>C (.inl (e▸a)))
     (bx.ar λb a hl=>(m9.same b (by omega) λe=>C (.inr ⟨o,V,.inl (e▸a)⟩)).trans ((m8.same b (by omega) (g4.files.gX T b (.inl a))).trans (g7.1.same b hl ((bx.apart a6 (by decide)) b a))))
     (o7.ar λb a hl=>(m9.same b (by omega) (b1 b a)).trans (m8.same b hl (bB b a)))
     (λj gj hj Y b a hl=>(m9.same b (by omega) λe=>C (.inr ⟨gj,QL Y,e▸a⟩)).trans ((m8.same b (by omega) (g4.files.gX Y b a)).trans (g7.1.same b hl λJ=>by
      rcases a with a|a
      ·obtain⟨_,_,t1,_⟩:=g4.files.zO Y;exact(t1.apart a6 (by decide)) b a J
      ·exact g4.files.apart j i gj o Y T hj b a J)))
     (λb a=>g7.2 b a)
    have R:(t.gI i (wr t)).used=if pg=f.az.length then t.used+1 else t.used:=by
     have h1:=Dk.jA (s:=t) (g:=λf=>{f with log:=f.log++[wr t]}) z;have h2:({f with log:=f.log++[wr t]}:Fl).az.length=max f.az.length (pg+1):=by
      have e:({f with log:=f.log++[wr t]}:Fl).az=dZ f.az (wr t):=by simp[Fl.az]
      rw[e,di,bA]
     have h3:(t.gI i (wr t)).used=(t.IL i (λf=>{f with log:=f.log++[wr t]})).used:=rfl;rw[h3];split<;>omega
    have bd:aQ H9 fl (gs.set i (o.1,s7)) (t.gI i (wr t)).files:=by
     show aQ H9 fl _ (t.files.modify i λf=>{f with log:=f.log++[wr t]});rw[bm z];exact fB
    have b2:(t.gI i (wr t)).aH<68719476736:=by
     have h1:=fK (λf:Fl=>f.log.length) (λf=>{f with log:=f.log++[wr t]}) t.files i f z;have h2:(t.gI i (wr t)).aH=((t.files.modify i λf=>{f with log:=f.log++[wr t]}).map λf=>f.log.length).sum:=rfl;have h3:(t.files.map λf=>f.log.length).sum=s.aH:=by rw[bs];rfl
     simp only[Ri,Rr,List.length_nil] at h1;rw[h2];omega
    refine⟨λA=>ao A d yo (dq fl t.most t.quota t.ops (fT (t.next+1)) t.crash.isSome u kp t.down),P,?_⟩;refine⟨(t.most:Int),λA G=>by rw[bg];exact G.cell rfl,?_⟩;have b3:(t.gI i (wr t)).files.length<=4096:=by
     show (t.files.modify i _).length<=4096;simp;exact g4.wf.files
    refine wN (s:=t.gI i (wr t)) P rfl bd (by rw[R];split<;>omega) b3 b2 λcB m10=>⟨P.ext m10,?_⟩;refine(P.ext m10).st (i:=1) (by simp[dq]) (by rfl) λbh d11 m11 c0=>?_;have em:(if (((t.gI i (wr t)).used:Nat):Int)>(t.most:Int) then (((t.gI i (wr t)).used:Nat):Int) else (t.most:Int))=((max t.most (t.gI i (wr t)).used:Nat):Int):=by split<;>omega
    rw[em] at d11;have c3:=m10.size;have bC:=iL.off P bd;have gG:iL fl (gs.set i (o.1,s7)) u kp bh d ((t.gI i (wr t)).jw (max t.most (t.gI i (wr t)).used)):=by
     refine⟨d11,g4.crash,?_,?_⟩
     ·exact bd.ar λb a hl=>(m11.same b (by omega) λe=>bC (e▸a)).trans (m10.same b hl id)
     ·refine g4.wf.modify (g:=λf=>{f with log:=f.log++[wr t]}) z rfl rfl (Nat.le_max_right _ _) ?_ rfl rfl rfl;show max t.most (t.gI i (wr t)).used<=t.quota;rw[R];split<;>omega
    have b4:Mod F H bh:=by
     have t1:Mod F H4 H9:=((g7.1.mono λb _ e=>(hF b).2 (.inr (.inr ⟨o,V,.inr e⟩))).trans (m8.mono λb _ e=>(hF b).2 (.inr (.inl e)))).trans (m9.mono λb _ e=>(hF b).2 (.inl e));exact((an.trans t1).trans (Ext.mod m10)).trans (m11.mono λb _ e=>(hF b).2 (.inl e))
    obtain⟨F',r1,r2⟩:=gG.out (fl:=fl) (gs:=gs) (F:=F) (H:=H) hF b4 (λb a=>(C7 (H:=H4) (g':=(o.1,s7)) T (λb a=>.inl a) (λb a=>g7.2 b a) b a).imp id (λq=>by omega));exact Z F' bh r1 r2
end
section
open Go.MapKept
abbrev RZ:=Fr×Sl
def nG:eZ RZ:=⟨7,λz=>[.string z.1.name,.int .i64 (z.1.page:Int),.int .u8 (z.1.kind.toNat:Int),.string (cP z.1.b),.bool z.1.dirty,z.2.v,.int .i64 z.1.left],λ_=>rfl,λx u hu=>by simp at hu;rcases hu with rfl|rfl|rfl|rfl|rfl|rfl|rfl<;>rfl⟩
theorem Kg:tc QH Ej vh nG.size 88:=fe (by kernel_rfl)
structure qu (H:aa)(ll:Sl)(zs:List RZ):Prop where
 arr:aF nG vh H ll zs
 ent:∀z∈zs,aF EI jm H z.2 z.1.pins
 apart:∀(i j:Nat) (z z':RZ),zs[i]?=some z->zs[j]?=some z'->i≠j->∀b,ai z.2 b->¬ai z'.2 b
def Eh (ll:Sl)(zs:List RZ)(b:Nat):Prop:=ai ll b\/∃z∈zs,ai z.2 b
def Ex (zs:List RZ):List Fr:=zs.map (·.1)
theorem qu.lt {H:aa}{ll:Sl}{zs:List RZ}(h:qu H ll zs):∀b,Eh ll zs b->b<H.size:=by
 rintro b (q|⟨z,a,q⟩)
 ·exact h.arr.lt b q
 ·exact(h.ent z a).lt b q
theorem qu.ar {H H':aa}{ll:Sl}{zs:List RZ}(h:qu H ll zs)(k:∀b,Eh ll zs b->b<H.size->H'[b]?=H[b]?):qu H' ll zs:=
 ⟨h.arr.ar λb a=>k b (.inl a),λz c=>(h.ent z c).ar λb a=>k b (.inr ⟨z,c,a⟩),h.apart⟩
theorem qu.ty {H:aa}{ll:Sl}{zs:List RZ}(h:qu H ll zs):∀b,Eh ll zs b->∃cs t,H[b]?=some (.cells cs t (0,0))/\(t=vh\/t=jm):=by
 rintro b (q|⟨z,a,q⟩)
 ·obtain⟨c,e⟩:=h.arr.obj b q;exact⟨c,_,e,.inl rfl⟩
 ·obtain⟨c,e⟩:=(h.ent z a).obj b q;exact⟨c,_,e,.inr rfl⟩
theorem qu.gX {H:aa}{ll:Sl}{zs:List RZ}(h:qu H ll zs){z:RZ}(a:z∈zs):∀b,ai z.2 b->¬ai ll b:=by
 intro b f hl;obtain⟨c,e⟩:=(h.ent z a).obj b f;obtain⟨m,j⟩:=h.arr.obj b hl;exact absurd (aM e j) (by decide)
def dR (dp:Nat)(ll:Sl)(s:Pl):Array gp:=#[dt dp,.int .i64 (s.most:Int),ll.v,.int .i64 s.next,.int .i64 s.tick,.int .i64 (s.peak:Int),.int .i64 s.wrong]
structure bH (ll:Sl)(zs:List RZ)(H:aa)(p dp:Nat)(s:Pl):Prop where
 head:ao H p tw (dR dp ll s)
 ag:qu H ll zs
 fs:s.fs=Ex zs
 wf:s.WF
def fX (ll:Sl)(zs:List RZ)(p b:Nat):Prop:=b=p\/Eh ll zs b
theorem bH.off {H:aa}{p:Nat}{ll:Sl}{zs:List RZ}{cs:Array gp}(hd:ao H p tw cs)(h:qu H ll zs):¬Eh ll zs p:=by
 intro f;obtain⟨c,t,e,a⟩:=h.ty p f;rw[<-aM hd e] at a;exact absurd a (by decide)
theorem bH.lt {ll:Sl}{zs:List RZ}{H:aa}{p dp:Nat}{s:Pl}(h:bH ll zs H p dp s):∀b,fX ll zs p b->b<H.size:=by
 rintro b (rfl|a)
 ·exact aI h.head
 ·exact h.ag.lt b a
theorem bH.ar {ll:Sl}{zs:List RZ}{H H':aa}{p dp:Nat}{s:Pl}(h:bH ll zs H p dp s)(k:∀b,fX ll zs p b->b<H.size->H'[b]?=H[b]?):bH ll zs H' p dp s:=
 ⟨(k p (.inl rfl) (aI h.head)).trans h.head,h.ag.ar λb a=>k b (.inr a),h.fs,h.wf⟩
theorem bH.bJ {ll:Sl}{zs:List RZ}{H:aa}{p dp:Nat}{s:Pl}(h:bH ll zs H p dp s)(d:Dk):bH ll zs H p dp (s.bJ d):=⟨h.head,h.ag,h.fs,h.wf.bJ d⟩
theorem bH.at {ll:Sl}{zs:List RZ}{H:aa}{p dp:Nat}{s:Pl}(h:bH ll zs H p dp s){i:Nat}{f:Fr}(a:s.fs[i]?=some f):∃g,zs[i]?=some (f,g):=by
 rw[h.fs] at a;unfold Ex at a;rw[QV,TP] at a;obtain⟨⟨f',g⟩,h1,rfl⟩:=a;exact⟨g,h1⟩
theorem bH.len {ll:Sl}{zs:List RZ}{H:aa}{p dp:Nat}{s:Pl}(h:bH ll zs H p dp s):s.fs.length=zs.length:=by rw[h.fs];simp[Ex]
theorem bH.n {ll:Sl}{zs:List RZ}{H:aa}{p dp:Nat}{s:Pl}(h:bH ll zs H p dp s):ll.n=s.fs.length:=by rw[h.ag.arr.n (by decide),h.len]
structure bz (ll:Sl)(zs:List RZ)(D:Nat->Prop)(H:aa)(p dp:Nat)(s:Pl):Prop where
 aj:bH ll zs H p dp s
 cD:cA D H dp s.d
 apart:∀b,D b->¬fX ll zs p b
def ax (F:Nat->Prop)(H:aa)(p dp:Nat)(s:Pl):Prop:=∃ll zs D,bz ll zs D H p dp s/\∀b,F b↔D b\/fX ll zs p b
theorem bz.lt {ll:Sl}{zs:List RZ}{D:Nat->Prop}{H:aa}{p dp:Nat}{s:Pl}(h:bz ll zs D H p dp s):∀b,D b\/fX ll zs p b->b<H.size:=by
 rintro b (a|a)
 ·exact h.cD.lt b a
 ·exact h.aj.lt b a
theorem bz.ar {ll:Sl}{zs:List RZ}{D:Nat->Prop}{H H':aa}{p dp:Nat}{s:Pl}(h:bz ll zs D H p dp s)(k:∀b,D b\/fX ll zs p b->b<H.size->H'[b]?=H[b]?):bz ll zs D H' p dp s:=
 ⟨h.aj.ar λb a=>k b (.inr a),h.cD.ar λb a=>k b (.inl a),h.apart⟩
theorem bz.ext {ll:Sl}{zs:List RZ}{D:Nat->Prop}{H H':aa}{p dp:Nat}{s:Pl}(h:bz ll zs D H p dp s)(e:Ext H H'):bz ll zs D H' p dp s:=h.ar λb _ hl=>e.same b hl id
theorem ax.lt {F:Nat->Prop}{H:aa}{p dp:Nat}{s:Pl}(h:ax F H p dp s):∀b,F b->b<H.size:=by
 obtain⟨ll,zs,D,g,a⟩:=h;exact λb c=>g.lt b ((a b).1 c)
theorem ax.ar {F:Nat->Prop}{H H':aa}{p dp:Nat}{s:Pl}(h:ax F H p dp s)(k:∀b,F b->b<H.size->H'[b]?=H[b]?):ax F H' p dp s:=by
 obtain⟨ll,zs,D,g,a⟩:=h;exact⟨ll,zs,D,g.ar λb c=>k b ((a b).2 c),a⟩
theorem ax.ext {F:Nat->Prop}{H H':aa}{p dp:Nat}{s:Pl}(h:ax F H p dp s)(e:Ext H H'):ax F H' p dp s:=h.ar λb _ hl=>e.same b hl id
theorem bz.ks {ll:Sl}{zs:List RZ}{D a:Nat->Prop}{H H':aa}{p dp:Nat}{s:Pl}{d:Dk}(h:bz ll zs D H p dp s)(hd:cA a H' dp d)(hs:Step D a H H'):
  bz ll zs a H' p dp (s.bJ d)/\Step (λb=>D b\/fX ll zs p b) (λb=>a b\/fX ll zs p b) H H':=by
 obtain⟨c,e⟩:=hs.side h.apart h.aj.lt;exact⟨⟨(h.aj.ar λb f hl=>hs.mod.same b hl λq=>h.apart b q f).bJ d,hd,c⟩,e⟩
theorem bz.js {ll a:Sl}{zs c:List RZ}{D:Nat->Prop}{H H':aa}{p dp:Nat}{s s':Pl}(h:bz ll zs D H p dp s)(m:bH a c H' p dp s')(hd:s'.d=s.d)(hm:Mod (fX ll zs p) H H')(j:∀b,Eh a c b->Eh ll zs b\/H.size<=b):
  bz a c D H' p dp s'/\Step (λb=>D b\/fX ll zs p b) (λb=>D b\/fX a c p b) H H':=by
 have hl:=h.cD.lt;refine⟨⟨m,by rw[hd];exact h.cD.ar λb e f=>hm.same b f (h.apart b e),?_⟩,hm.mono λb _ q=>.inr q,?_⟩
 ·rintro b e (q|q)
  ·exact h.apart b e (.inl q)
  ·rcases j b q with r|r
   ·exact h.apart b e (.inr r)
   ·have:=hl b e;omega
 ·rintro b (q|q|q)
  ·exact .inl (.inl q)
  ·exact .inl (.inr (.inl q))
  ·exact(j b q).imp (λr=>.inr (.inr r)) id
theorem bz.out {ll a:Sl}{zs c:List RZ}{D e:Nat->Prop}{F:Nat->Prop}{H H':aa}{p dp:Nat}{s:Pl}(h:bz a c e H' p dp s)(f:∀b,F b↔D b\/fX ll zs p b)(hs:Step (λb=>D b\/fX ll zs p b) (λb=>e b\/fX a c p b) H H'):
  ∃F',ax F' H' p dp s/\Step F F' H H':=
 ⟨λb=>e b\/fX a c p b,⟨a,c,e,h,λ_=>V4⟩,hs.mod.mono λb _ q=>(f b).2 q,λb j=>(hs.own b j).imp (f b).2 id⟩
theorem bH.tS {ll:Sl}{zs:List RZ}{H H':aa}{p dp:Nat}{s s':Pl}(h:bH ll zs H p dp s)(a:ao H' p tw (dR dp ll s'))(hm:Mod (λb=>b=p) H H')(c:s'.fs=s.fs)(hw:s'.WF):bH ll zs H' p dp s':=
 ⟨a,h.ag.ar λb f hl=>hm.same b hl λe=>bH.off h.head h.ag (e▸f),c.trans h.fs,hw⟩
theorem qu.ld {H:aa}{ll:Sl}{zs:List RZ}(h:qu H ll zs){i j:Nat}{z:RZ}(e:zs[i]?=some z){c:fg}{y:c.α}(m:(nG.enc z)[j]?=some (c.enc y)){K:c.α->Prop}(o:K y):
  ae ll.a λa=>(0<=(i:Int)/\(i:Int)<(ll.n:Int))/\sz c H ((a.add ((i:Int).toNat*7)).add j) K:=by
 have hi:=(QJ.1 e).1;obtain⟨ad,f⟩:=bX.addr h.arr.rd (by decide) (by omega);rw[f];refine⟨⟨by omega,by rw[h.arr.n (by decide)];omega⟩,?_⟩;exact bX.ld (E:=nG) (c:=c) h.arr.rd f e m (by simp[nG]) o
theorem qu.set {H H':aa}{ll:Sl}{zs:List RZ}(h:qu H ll zs){i:Nat}{z z':RZ}(C:zs[i]?=some z)(D:aF nG vh H' ll (zs.set i z'))(he:aF EI jm H' z'.2 z'.1.pins)
  (hm:∀u∈zs,∀b,ai u.2 b->¬ai z.2 b->b<H.size->H'[b]?=H[b]?) (N:∀b,ai z'.2 b->ai z.2 b\/H.size<=b):
  qu H' ll (zs.set i z')/\∀b,Eh ll (zs.set i z') b->Eh ll zs b\/H.size<=b:=by
 have E:=(QJ.1 C).1;refine⟨⟨D,λu hu=>?_,?_⟩,?_⟩
 ·rcases kB hu with ⟨j,O,K⟩|rfl
  ·have G:=QL K;exact(h.ent u G).ar λb P hl=>hm u G b P (λq=>h.apart j i u z K C O b P q) hl
  ·exact he
 ·intro a c u v h1 o e b f m;rw[Rx] at h1 o;by_cases I:i=a
  ·subst I;rw[if_neg e] at o;rw[if_pos rfl,if_pos E] at h1;cases h1;rcases N b f with q|q
   ·exact h.apart i c z v C o e b q m
   ·have:=(h.ent v (QL o)).lt b m;omega
  ·rw[if_neg I] at h1;by_cases J:i=c
   ·subst J;rw[if_pos rfl,if_pos E] at o;cases o;rcases N b m with q|q
    ·exact h.apart a i u z h1 C e b f q
    ·have:=(h.ent u (QL h1)).lt b f;omega
   ·rw[if_neg J] at o;exact h.apart a c u v h1 o e b f m
 ·rintro b (q|⟨u,hu,q⟩)
  ·exact .inl (.inl q)
  ·rcases kB hu with ⟨j,_,K⟩|rfl
   ·exact .inl (.inr ⟨u,QL K,q⟩)
   ·exact(N b q).imp (λr=>.inr ⟨z,QL C,r⟩) id
end
section
open Go.MapKept
theorem qW (l:List UInt8):(cP l).toList=l:=by
 rw[VN];rfl
theorem tf {H:aa}{z:Sl}{L:List (List UInt8)}(h:aF EN dG H z L){i:Nat}(hi:i<L.length){K:ByteArray->Prop}(f:K (cP L[i])):ae z.a λa=>(0<=(i:Int)/\(i:Int)<(z.n:Int))/\ld aN H (a.add ((i:Int).toNat*1)) K:=by
 have hn:=h.n (by decide);obtain⟨ad,e⟩:=bX.addr h.rd (by decide) (by omega);rw[e];refine⟨⟨by omega,by omega⟩,?_⟩;simp only[QP];exact aF.one (c:=aN) (y:=cP L[i]) h (QK hi) rfl rfl e f
theorem vw {L:List (List UInt8)}{x:List UInt8}{a:Nat}(f:L.Pairwise (·<=·))(v:a<=L.length)(h1:∀j (o:j<L.length),j<a->L[j]<x)(h:∀j (o:j<L.length),a<=j->x<=L[j]):(L.take a++[x]++L.drop a).Pairwise (·<=·):=by
 rw[RD,WZ];refine⟨f.sublist (YZ _ _),?_,?_⟩
 ·rw[List.singleton_append,R0];refine⟨λy e=>?_,f.sublist (Y0 _ _)⟩;obtain⟨k,hk,rfl⟩:=Sb e;simp at hk ⊢;exact h (a+k) (by omega) (by omega)
 ·intro y e z u;obtain⟨k,hk,rfl⟩:=Sb e;simp at hk;have c:L[k]<x:=h1 k (by omega) (by omega);simp only[XN];rcases QQ.1 u with q|q
  ·simp at q;subst q;exact ZY c
  ·obtain⟨m,hm,rfl⟩:=Sb q;simp at hm ⊢;exact XF (ZY c) (h (a+m) (by omega) (by omega))
theorem HX {F:Nat->Prop}{d:Nat}{s:Dk}{H:aa}{K:Sl->aa->Prop}(h:cA F H d s)(hK:∀l H',aF EN dG H' l s.list->Mod (λ_=>False) H H'->(∀b,ai l b->H.size<=b)->K l H'):Li.sp (aK d) H K:=by
 obtain⟨fl,gs,cin,kp,g,_⟩:=h;refine Li.of ?_;unfold Li.vc;simp only[aw];have bx:=g.wf.files;have hn:=g.files.n;have fin:∀(L:List (List UInt8)) (l:Sl) (A:aa),s.down=false->aF EN dG A l L->L.Pairwise (·<=·)->L.Perm (s.files.map λf=>f.name.toList)->Mod (λ_=>False) H A->(∀b,ai l b->H.size<=b)->K l A:=by
  intro L l A hd o hs R m f;refine hK l A ?_ m f;have e:s.list=L:=by
   unfold Dk.list;rw[hd];simp only[SL,if_false];rw[<-lL R];have tr:∀a b c:List UInt8,decide (a<=b)=true->decide (b<=c)=true->decide (a<=c)=true:=λa b c h1 S=>by simp only[decide_eq_true_eq] at*;exact XF h1 S
   have to:∀a b:List UInt8,(decide (a<=b)||decide (b<=a))=true:=λa b=>by simp only[Sc,decide_eq_true_eq];exact ZX a b
   refine TE (le:=λa b=>decide (a<=b)=true) (λa b _ _ h1 S=>?_) (Sw tr to L) (hs.imp λh=>by simpa using h) (RG L _);simp only[decide_eq_true_eq] at h1 S;exact Zh h1 S
  rw[e];exact o
 refine av s.files.length (λk x H1=>x.2=(k:Int)/\Mod (λ_=>False) H H1/\(∀b,ai x.1 b->H.size<=b)/\(s.down=true->k=0/\x.1=Sl.mk none 0 0)/\∃L,aF EN dG H1 x.1 L/\L.Pairwise (·<=·)/\L.Perm ((s.files.take k).map λf=>f.name.toList)) ⟨rfl,.refl _ _,(by rintro b ⟨ad,q,_⟩;cases q),λ_=>⟨rfl,rfl⟩,[],aF.nil _ _ _,UY,by simp⟩ ?_;rintro k ⟨l,i⟩ H1 next hk ⟨hi,m1,f1,T,L,G,hs,R⟩ v
 simp only at hi;subst hi;simp only at f1 T G v ⊢;have d1:=g.head.ext m1;have F1:aQ H1 fl gs s.files:=g.files.ar λb u hl=>m1.same b hl id;have z:s.down=true->K l H1:=by
  intro hd;obtain⟨_,e⟩:=T hd;rw[e];refine hK _ H1 ?_ m1 (by rintro b ⟨ad,q,_⟩;cases q);unfold Dk.list;rw[hd];exact aF.nil _ _ _
 refine d1.ld (c:=aq) (i:=0) (x:=fl) rfl ?_;refine ah (λV=>?_) (λV=>?_)
 ·have I:k<s.files.length:=by rw[hn] at V;simpa using V
  refine d1.ld (c:=aC) (i:=8) (x:=s.down) rfl ?_;cases hd:s.down with
  |true=>exact aE rfl (z hd)
  |false=>
    refine aR rfl ?_;have hf:s.files[k]?=some s.files[k]:=QK I;obtain⟨f,Y⟩:∃f,f=s.files[k]:=⟨_,rfl⟩;rw[<-Y] at hf;obtain⟨gg,hg,_,_⟩:=F1.Dl hf;have bA:L.length=k:=by rw[R.length_eq];simp;omega
    have Z:=G.n (by decide);have bs:=G.cap;have hx:=sx f.name;have ins:∀a:Nat,a<=L.length->(∀j (J:j<L.length),j<a->L[j]<f.name.toList)->(∀j (J:j<L.length),a<=j->f.name.toList<=L[j])->
      ((0<=(a:Int)/\(a:Int)<=(l.c:Int))/\bf aq QH (QM #[dV,dV] dV #[.slice none 0 0,.slice (cM l.a l.c 0 1) ((a:Int).toNat - 0) (l.c - 0)]) H1 λ(an:Sl) H7=>ld aq H7 (Ru ⟨d,0,none⟩ 0) λ(af:Sl)=>ae af.a λa1=>(0<=(k:Int)/\(k:Int)<(af.n:Int))/\ld aN H7 ((a1.add ((k:Int).toNat*3)).add 0) λ(a6:ByteArray)=>aG H7 #[.string a6] dG λa7 H8=>bf aq QH (QM #[dV,dV] dV #[an.v,.slice (some a7) 1 1]) H8 λ(a8:Sl) H9=>(0<=(a:Int)/\(a:Int)<=(l.n:Int))/\bf aq QH (QM #[dV,dV] dV #[a8.v,.slice (cM l.a l.c (a:Int).toNat 1) (l.n - (a:Int).toNat) (l.c - (a:Int).toNat)]) H9 λ(bb:Sl) bd=>next (bb,QI.wrap ((k:Int)+(1:Int))) bd):=by
     intro a ha h1 S;refine⟨⟨by omega,by omega⟩,?_⟩;have t1:bX EN H1 (cM l.a l.c 0 1) (L.take a):=by rw[rj];exact G.rd.take
     refine aF.append (E:=EN) ye (s:=Sl.mk none 0 0) (x:=⟨cM l.a l.c 0 1,(a:Int).toNat - 0,l.c - 0⟩) (l:=[]) (aF.nil _ _ _) t1 (by simp;omega) (by simp;omega) (by simp;omega) λl2 H2 o2 g2 _=>?_;have f2:∀b,ai l2 b->H1.size<=b:=λb u=>(g2.2 b u).resolve_left (by rintro⟨ad,q,_⟩;cases q);have m2:Mod (λ_=>False) H1 H2:=g2.1.mono λb _ u=>by obtain⟨ad,q,_⟩:=u;cases q
     refine(d1.ext m2).ld (c:=aq) (i:=0) (x:=fl) rfl ?_;have F2:aQ H2 fl gs s.files:=F1.ar λb u hl=>m2.same b hl id;refine F2.ld1 hf hg (j:=0) (c:=aN) (y:=f.name) rfl ?_;refine aF.push (E:=EN) ye (x:=f.name.toList) o2 (by unfold cP at hx;simp[EN,hx]) (by simp;omega) (by simp;omega) λl3 H3 o3 g3 _=>?_;have z2:=m2.size;have z3:=g3.1.size;have f3:∀b,ai l3 b->H1.size<=b:=λb u=>by
      rcases g3.2 b u with q|q
      ·exact f2 b q
      ·omega
     have m13:Mod (λ_=>False) H1 H3:=⟨by omega,λb u _=>(g3.1.same b (by omega) λhh=>by have:=f2 b hh;omega).trans (m2.same b u id)⟩;refine⟨⟨by omega,by omega⟩,?_⟩;have bh:aF EN dG H3 l L:=G.ext m13;have t3:bX EN H3 (cM l.a l.c a 1) (L.drop a):=bX.drop bh.rd (by omega);simp only[QP];refine aF.append (E:=EN) ye (s:=l3) (x:=⟨cM l.a l.c a 1,l.n - a,l.c - a⟩) o3 t3 (by simp;omega) (by simp;omega) (by simp;omega) λl4 H4 o4 g4 _=>?_;have z4:=g4.1.size;have z1:=m1.size;refine v I _ _ ⟨aD k (by omega),⟨by omega,λb u _=>(g4.1.same b (by omega) λhh=>by have:=f3 b hh;omega).trans ((m13.same b (by omega) id).trans (m1.same b u id))⟩,?_,(λh=>by rw[hd] at h;cases h),_,o4,?_,?_⟩
     ·intro b u;rcases g4.2 b u with q|q
      ·have:=f3 b q;omega
      ·omega
     ·simp only[SY];exact vw hs ha h1 S
     ·simp only[SY];rw[QO I,<-Y,Rm,Q7,TD];refine List.Perm.trans ?_ (R.append_right _);have e:=Tj a L
      conv=>rhs;rw[<-e]
      rw[RD,RD];exact List.Perm.append_left _ (List.perm_append_comm)
    refine av L.length (λa x H2=>x=(a:Int)/\H2=H1/\∀j (J:j<L.length),j<a->L[j]<f.name.toList) ⟨rfl,rfl,λj _ h=>by omega⟩ ?_;rintro a _ H2 bl ha ⟨rfl,rfl,N⟩ D;refine ah (λC=>?_) (λC=>?_)
    ·have O:a<L.length:=by rw[Z] at C;simpa using C
     refine tf G O ?_;refine d1.ld (c:=aq) (i:=0) (x:=fl) rfl ?_;refine F1.ld1 hf hg (j:=0) (c:=aN) (y:=f.name) rfl ?_;rw[qW,bytesLess_eq];refine ah (λu=>?_) (λu=>?_)
     ·have P:L[a]<f.name.toList:=by simpa using u
      refine D O _ _ ⟨aD a (by omega),rfl,λj J bB=>?_⟩;rcases RA j a with q|q
      ·exact N j J q
      ·have:j=a:=by omega
       subst this;exact P
     ·have P:¬L[a]<f.name.toList:=by simpa using u
      refine ins a (by omega) N λj J bn=>?_;refine XF (List.not_lt.1 P) ?_;rcases RA a j with q|q
      ·exact(SJ.1 hs) a j O J q
      ·have:a=j:=by omega
       subst this;exact List.le_refl _
    ·have al:a=L.length:=by rw[Z] at C;simp at C;omega
     exact ins a (by omega) N λj J bn=>by omega
 ·have al:k=s.files.length:=by rw[hn] at V;simp at V;omega
  rw[al,QS (QN _)] at R;cases hd:s.down with
  |true=>exact z hd
  |false=>exact fin L l H1 hd G hs R m1 f1
end
theorem N1 (a:BitVec 32):mS .u32 (a.toNat:Int) 1=((a.toNat%2:Nat):Int):=by
 unfold mS;show Ss.wrap ((BitVec.ofInt 32 (a.toNat:Int)&&&1#32).toNat:Int)=_;have h1:(1#32).toNat=2^1 - 1:=by decide
 rw[te,BitVec.toNat_and,h1,Nat.and_two_pow_sub_one_eq_mod];exact wrap32 (by omega)
theorem CW (a:BitVec 32):a.getLsbD 0=decide (a.toNat%2=1):=by
 rw[BitVec.getLsbD];simp[Nat.testBit_zero]
def bits (r:BitVec 32):Nat->BitVec 32
 |0=>r
 |n+1=>lY (bits r n)
theorem Of (r:BitVec 32):bits r 8=lU (lU r):=rfl
theorem OU (a:BitVec 32):dQ .u32 (a.toNat:Int) 1=((a>>>1).toNat:Int):=by
 rw[show (1:Int)=((1:Nat):Int) from rfl,ue a 1 (by decide),BitVec.toNat_ushiftRight,Nat.shiftRight_eq_div_pow]
theorem I9 {s:Sl}{l:List UInt8}{H:aa}{K:Int->aa->Prop}(C:bW H s l)(hl:l.length<4611686018427387904)(D:K ((fV l).toNat:Int) H):Lx.sp s H K:=by
 refine Lx.of ?_;unfold Lx.vc;have hn:=C.n;refine av l.length (λk x H1=>H1=H/\x=(((qT (l.take k)).toNat:Int),(k:Int))) ⟨rfl,rfl⟩ ?_;rintro k _ H1 next hk ⟨rfl,rfl⟩ f
 refine ah (λo=>?_) (λo=>?_)
 ·have h:k<l.length:=by rw[hn] at o;simpa using o
  refine eR C h rfl λad N=>?_;have E:(l[k]).toNat<256:=(l[k]).toNat_lt;have G:jj .u32 ((qT (l.take k)).toNat:Int) (Ss.wrap (((l[k]).toNat:Nat):Int))=((qT (l.take k)^^^Uw 32 (l[k]).toNat).toNat:Int):=by
   rw[wrap32 (by omega),<-toNat_ofNat32 l[k],qQ,toNat_ofNat32]
  simp only[G];generalize I:qT (l.take k)^^^Uw 32 (l[k]).toNat=r;refine av 8 (λj x J=>J=H1/\x=(((bits r j).toNat:Int),(j:Int))) ⟨rfl,rfl⟩ ?_;rintro j _ _ v O ⟨rfl,rfl⟩ a;refine ah (λm=>?_) (λm=>?_)
  ·have c:j<8:=by simp at m;omega
   rw[N1,OU];have u:bits r (j+1)=lY (bits r j):=rfl;generalize P:bits r j=q at*;refine ah (λh1=>?_) (λh1=>?_)
   ·have hm:q.toNat%2=1:=by simp at h1;omega
    refine a c _ _ ⟨rfl,?_⟩;rw[aD j (by omega),show (3988292384:Int)=(JY.toNat:Int) from rfl,qQ,u];unfold lY;rw[CW,hm];rfl
   ·have hm:q.toNat%2=0:=by simp at h1;omega
    refine a c _ _ ⟨rfl,?_⟩;rw[aD j (by omega),u];unfold lY;rw[CW,hm];simp
  ·have c:j=8:=by simp at m;omega
   subst c;refine f h _ _ ⟨rfl,?_⟩;rw[aD k (by omega),QO h,wW,Of];unfold Ag;rw[I]
 ·have z:k=l.length:=by rw[hn] at o;simp at o;omega
  rw[z,QS (QN _)];have e:jj .u32 ((qT l).toNat:Int) (4294967295:Int)=((fV l).toNat:Int):=by
   rw[C2,show (4294967295:Int)=((BitVec.allOnes 32).toNat:Int) from rfl,qQ,BitVec.xor_comm];congr 2
  rw[e];exact D
theorem KJ:∀inf z,QH.info? fU=some inf->inf.zero=some z->z.cells.toList=EB.enc 0:=by
 intro inf z h1 a;have h:((QH.info? fU).bind λi=>i.zero)=some (.int .u8 0):=by kernel_rfl
 rw[h1,WL,a] at h;cases h;rfl
theorem EV:QH.underlying jm=some (.int .i64):=by kernel_rfl
theorem uc {kind:UInt8}{s:Sl}{l:List UInt8}{H:aa}{K:Sl×Int->aa->Prop}(a:bW H s l)(hlen:l.length<=504)
  (Z:∀s' H',aF EB fU H' s' (cT kind l)->Ext H H'->(∀b,ai s' b->H.size<=b)->K (s',0) H'):Ig.sp (kind.toNat:Int) s H K:=by
 refine Ig.of ?_;unfold Ig.vc;have hn:=a.n;refine aE (by simp;omega) ?_;have v4:RE.wrap (Int.tmod (s.n:Int) 256)=((Rv l.length).toNat:Int):=by
  have:Int.tmod (s.n:Int) 256=((l.length%256:Nat):Int):=by rw[hn];rfl
  rw[this,pR];congr 1;rw[TY,TY];omega
 have v5:RE.wrap (QI.wrap (Rt (s.n:Int) 256))=((Rv (l.length/256)).toNat:Int):=by
  have:Rt (s.n:Int) 256=((l.length/256:Nat):Int):=by rw[hn];rfl
  rw[this,wrap64 (by omega) (by omega),pR]
 rw[v4,v5];refine au λH1 s1 r1 C=>?_;have b1:bW H1 s l:=a.ar λad _ hl=>C.same _ hl id;have o1:aF EB fU H1 (Sl.mk (some ⟨H.size,0,none⟩) 4 4) [Rv l.length,Rv (l.length/256),kind,157]:=
  ⟨rfl,.inr ⟨H.size,4,_,rfl,Q5 _,r1,QN _,by unfold maxLen;omega,rfl,rfl⟩⟩
 refine aF.append (E:=EB) jM (s:=Sl.mk (some ⟨H.size,0,none⟩) 4 4) (x:=s) o1 (by rw[bX,jc];exact b1.cells) hn (by simp;omega) (by simp;omega) λrest H2 T g2 _=>?_;have D:=T.n (by decide);have V:rest.n=4+l.length:=by simp at D;omega
 have hw:QI.wrap ((508:Int) - (rest.n:Int))=((504 - l.length:Nat):Int):=by rw[wrap64 (by omega) (by omega)];omega
 rw[hw];refine aF.Jq (E:=EB) (x0:=0) jM EV KJ T (by decide) (by simp;omega) λc G I g3=>?_;have h:[Rv l.length,Rv (l.length/256),kind,157]++l++Q6 (504 - l.length) 0=da kind l:=rfl;rw[h] at I;have m:=kE (kind:=kind) hlen;have z1:=C.size;have z2:=g2.1.size;have z3:=g3.1.size;have f2:∀b,ai rest b->H.size<=b:=λb a=>by
  rcases g2.2 b a with ⟨ad,J,N⟩|q
  ·cases J;have:H.size=b:=N;omega
  ·omega
 have f3:∀b,ai c b->H.size<=b:=λb a=>by
  rcases g3.2 b a with q|q
  ·exact f2 b q
  ·omega
 have O:Ext H G:=⟨by omega,λb a _=>(g3.1.same b (by omega) λo=>by have:=f2 b o;omega).trans ((g2.1.same b (by omega) (by rintro⟨ad,J,N⟩;cases J;have:H.size=b:=N;omega)).trans (C.same b a id))⟩;refine I9 (cg I) (by omega) ?_;refine av 4 (λk x z=>x.2=(k:Int)/\aF EB fU z x.1 ((qD (fV (da kind l))).take k)/\Mod (λ_=>False) G z/\∀b,ai x.1 b->G.size<=b) ⟨rfl,aF.nil _ _ _,.refl _ _,by rintro b ⟨ad,q,_⟩;cases q⟩ ?_;rintro k ⟨out,i⟩ z next hk ⟨hi,P,m5,f5⟩ f
 simp only at hi;subst hi;simp only at P f5 f ⊢;have z5:=m5.size;have h4:(qD (fV (da kind l))).length=4:=rfl;refine ah (λR=>?_) (λR=>?_)
 ·have j:k<4:=by simp at R;omega
  have S:QI.wrap ((8:Int)*(k:Int))=((8*k:Nat):Int):=by rw[wrap64 (by omega) (by omega)];omega
  rw[S];refine⟨by omega,?_⟩;have hv:(qD (fV (da kind l)))[k]?=some (Rv ((fV (da kind l)).toNat/2^(8*k))):=by
   have:k=0\/k=1\/k=2\/k=3:=by omega
   rcases this with rfl|rfl|rfl|rfl<;>simp[qD]
  rw[ue _ (8*k) (by omega),pR];refine aF.push (E:=EB) jM (x:=Rv ((fV (da kind l)).toNat/2^(8*k))) P rfl (by simp;omega) (by simp;omega) λY H7 o7 g7 _=>?_;have z7:=g7.1.size;refine f j _ _ ⟨aD k (by omega),?_,⟨by omega,λb a _=>(g7.1.same b (by omega) λo=>by have:=f5 b o;omega).trans (m5.same b a id)⟩,λb a=>?_⟩
  ·have e:(qD (fV (da kind l))).take (k+1)=(qD (fV (da kind l))).take k++[Rv ((fV (da kind l)).toNat/2^(8*k))]:=by
    rw[XP,hv];rfl
   rw[e];exact o7
  ·rcases g7.2 b a with q|q
   ·exact f5 b q
   ·omega
 ·have j:k=4:=by simp at R;omega
  subst j;have u:aF EB fU z c (da kind l):=I.ext m5;refine aF.append (E:=EB) jM (s:=out) (x:=c) P u.rd (u.n (by decide)) (by simp[m];omega) (by simp[m];omega) λv H8 o8 g8 _=>?_;have z8:=g8.1.size;refine Z v H8 o8 ⟨by omega,λb a _=>(g8.1.same b (by omega) λo=>by have:=f5 b o;omega).trans ((m5.same b (by omega) id).trans (O.same b a id))⟩ λb a=>?_;rcases g8.2 b a with q|q
  ·have:=f5 b q;omega
  ·omega
theorem HT {s:Sl}{l:List UInt8}{H:aa}{K:(Int×Sl×Int)->aa->Prop}(a:bW H s l)(h:s.n<=s.c)(c:l.length=512)
  (J:ja l=none->∀H',Ext H H'->K (0,Sl.mk none 0 0,20) H')
  (R:∀k b s' H',ja l=some (k,b)->b.length<=504->aF EB fU H' s' b->Ext H H'->(∀b,ai s' b->H.size<=b)->K ((k.toNat:Int),s',0) H'):GO.sp s H K:=by
 refine GO.of ?_;unfold GO.vc;have hn:=a.n;refine aE (by simp;omega) ?_;refine eR a (i:=4) (by omega) rfl λS T=>?_;refine eR a (i:=5) (by omega) rfl λV Y=>?_;have c4:(l[4]).toNat<256:=(l[4]).toNat_lt;have c5:(l[5]).toNat<256:=(l[5]).toNat_lt;have hs:bV l=(l[4]).toNat+256*(l[5]).toNat:=by
  unfold bV;simp[RY,c]
 have hw:QI.wrap ((QI.wrap ((l[4]).toNat:Int))+(QI.wrap ((256:Int)*(QI.wrap ((l[5]).toNat:Int)))))=(bV l:Int):=by
  rw[wrap64 (x:=((l[4]).toNat:Int)) (by omega) (by omega),wrap64 (x:=((l[5]).toNat:Int)) (by omega) (by omega),wrap64 (x:=(256:Int)*((l[5]).toNat:Int)) (by omega) (by omega),wrap64 (by omega) (by omega)];omega
 rw[hw];refine ah (λu=>?_) (λu=>?_)
 ·have Z:504<bV l:=by simp at u;omega
  exact J (by unfold ja;rw[if_neg (by omega)]) H (.refl _ _)
 have hle:bV l<=504:=by simp at u;omega
 have v:QI.wrap ((8:Int)+(bV l:Int))=((8+bV l:Nat):Int):=by rw[wrap64 (by omega) (by omega)];omega
 rw[v];refine⟨⟨by omega,by omega⟩,⟨by omega,by omega⟩,?_⟩;have hd:=(a.drop h 8).take (bV l) (by simp only;omega) (s.c - 8);have ex:(((8+bV l:Nat):Int).toNat - (8:Int).toNat)=bV l:=by omega
 rw[ex];have e:((l.drop 8).take (bV l)).length=bV l:=by simp;omega
 refine aF.append (E:=EB) jM (s:=Sl.mk none 0 0) (x:=Sl.mk (cM s.a s.c 8 1) (bV l) (s.c - 8)) (l:=[]) (aF.nil _ _ _) (by rw[bX,jc];exact hd.cells) (by rw[e]) (by simp;omega) (by simp;omega) λs1 H1 z g1 _=>?_;simp only[SY] at z;have o:Ext H H1:=g1.1.mono λb _ a=>by obtain⟨ad,q,_⟩:=a;cases q
 have f1:∀b,ai s1 b->H.size<=b:=λb a=>(g1.2 b a).resolve_left (by rintro⟨ad,q,_⟩;cases q);have N:bW H1 s l:=a.ar λad _ hl=>o.same _ hl id;refine eR N (i:=6) (by omega) rfl λC D=>?_;refine uc (cg z) (by rw[e];exact hle) λw G o2 j f2=>?_;have O:bW G s l:=N.ar λad _ hl=>j.same _ hl id;have z1:=o.size;have z2:=j.size;have P:l.getD 6 0=l[6]:=by simp[RY,c]
 refine lC (cg o2) ?_;refine lC O ?_;have m:((cP (cT l[6] ((l.drop 8).take (bV l)))).toList==(cP l).toList)=decide (cT l[6] ((l.drop 8).take (bV l))=l):=by
  rw[qW,qW,Wu,beq_iff_eq,decide_eq_true_iff]
 rw[m];refine ah (λI=>?_) (λI=>?_)
 ·have f:¬cT l[6] ((l.drop 8).take (bV l))=l:=by simpa using I
  exact J (by unfold ja;rw[P,if_neg (by rintro⟨_,q⟩;exact f q)]) G (o.trans j)
 ·have f:cT l[6] ((l.drop 8).take (bV l))=l:=by simpa using I
  refine eR O (i:=6) (by omega) rfl λC D=>?_;exact R l[6] _ s1 G (by unfold ja;rw[P,if_pos ⟨hle,f⟩]) (by rw[e];exact hle) (z.ext j) (o.trans j) f1
def qn (i:Option Nat):Int:=match i with|some i=>(i:Int)|none=>-1
theorem mr (i:Option Nat):decide (qn i<0)=i.isNone:=by
 cases i with
 |none=>rfl
 |some i=>exact decide_eq_false (by simp only[qn];omega)
theorem Ae (i:Option Nat):decide (qn i>=0)=i.isSome:=by
 cases i with
 |none=>rfl
 |some i=>exact decide_eq_true (by simp only[qn];omega)
theorem gY {b:Nat}:¬ai (Sl.mk none 0 0) b:=by rintro⟨ad,q,_⟩;cases q
theorem xN {H:aa}{sl:Sl}{l:List Int}(h:aF EI jm H sl l){j:Nat}(f:j<l.length){K:Int->Prop}(m:K l[j]):ae sl.a λa=>(0<=(j:Int)/\(j:Int)<(sl.n:Int))/\ld (ab .i64) H (a.add ((j:Int).toNat*1)) K:=by
 obtain⟨ad,e⟩:=bX.addr h.rd (by decide) (by omega);have hn:=h.n (by decide);rw[e];refine⟨⟨by omega,by omega⟩,?_⟩;simp only[QP];exact aF.one (c:=ab .i64) h (QK f) rfl rfl e m
section
variable {ll:Sl}{zs:List RZ}{D:Nat->Prop}{H:aa}{p dp:Nat}{s:Pl}
theorem vM {n:ByteArray}{g:Int}{K:Int->aa->Prop}(h:bH ll zs H p dp s)(E:K (qn (s.find n g)) H):J9.sp (aK p) n g H K:=by
 refine J9.of ?_;unfold J9.vc;simp only[aw];have hn:=h.n;have hlen:=h.wf.len;have G:=h.wf.most;refine av s.fs.length (λk x H1=>x=(k:Int)/\H1=H/\∀j (v:j<s.fs.length),j<k->(s.fs[j].name.toList==n.toList&&decide ((s.fs[j].page:Int)=g))=false) ⟨rfl,rfl,λj _ h=>by omega⟩ ?_;rintro k _ H1 next hk ⟨rfl,rfl,e⟩ m
 refine h.head.ld (c:=aq) (i:=2) (x:=ll) rfl ?_;refine ah (λC=>?_) (λC=>?_)
 ·have o:k<s.fs.length:=by rw[hn] at C;simpa using C
  obtain⟨P,J⟩:=h.at (QK o);have a:(s.fs[k].name.toList==n.toList&&decide ((s.fs[k].page:Int)=g))=false->next (QI.wrap ((k:Int)+(1:Int))) H1:=λz=>by
   refine m o _ _ ⟨aD k (by omega),rfl,λj v N=>?_⟩;rcases RA j k with q|q
   ·exact e j v q
   ·have:j=k:=by omega
    subst this;exact z
  refine h.head.ld (c:=aq) (i:=2) (x:=ll) rfl ?_;refine h.ag.ld J (j:=0) (c:=aN) (y:=s.fs[k].name) rfl ?_;refine ah (λz=>?_) (λz=>a (by rw[z];rfl));refine h.head.ld (c:=aq) (i:=2) (x:=ll) rfl ?_;refine h.ag.ld J (j:=1) (c:=ab .i64) (y:=(s.fs[k].page:Int)) rfl ?_;refine ah (λu=>?_) (λu=>a (by rw[z];simpa using u));have:s.find n g=some k:=by
   unfold Pl.find;rw[SM];exact⟨o,by rw[z];simpa using u,λj v=>by simpa using e j (by omega) v⟩
  rw[this] at E;exact E
 ·have O:k=s.fs.length:=by rw[hn] at C;simp at C;omega
  have:s.find n g=none:=by
   unfold Pl.find;rw[Tc];intro f I;obtain⟨j,v,rfl⟩:=Sb I;exact e j v (by omega)
  rw[this] at E;exact E
theorem rm {c:Int}{K:Int->aa->Prop}(h:bH ll zs H p dp s)(an:s.next<9223372036854775807)(O:K (qn (s.held c)) H):IJ.sp (aK p) c H K:=by
 refine IJ.of ?_;unfold IJ.vc;simp only[aw];have hn:=h.n;have hlen:=h.wf.len;have P:=h.wf.most;have R:=h.wf.tick;refine av s.fs.length (λk x H1=>x=(k:Int)/\H1=H/\∀j (G:j<s.fs.length),j<k->s.fs[j].pins.contains c=false) ⟨rfl,rfl,λj _ h=>by omega⟩ ?_;rintro k _ H1 next hk ⟨rfl,rfl,u⟩ v
 refine h.head.ld (c:=aq) (i:=2) (x:=ll) rfl ?_;refine ah (λI=>?_) (λI=>?_)
 ·have z:k<s.fs.length:=by rw[hn] at I;simpa using I
  have J:s.fs[k]?=some s.fs[k]:=QK z;obtain⟨gg,S⟩:=h.at J;have T:=h.ag.ent _ (QL S);have a1:s.fs[k].pins.length<=s.pins:=l8 (λf:Fr=>f.pins.length) s.fs k _ J;have C:=T.n (by decide);simp only at T C;refine av s.fs[k].pins.length (λj x H2=>x=(j:Int)/\H2=H1/\∀q (E:q<s.fs[k].pins.length),q<j->s.fs[k].pins[q]≠c) ⟨rfl,rfl,λj _ h=>by omega⟩ ?_;rintro j _ H2 V G ⟨rfl,rfl,o⟩ m;refine h.head.ld (c:=aq) (i:=2) (x:=ll) rfl ?_;refine h.ag.ld S (j:=5) (c:=aq) (y:=gg) rfl ?_;have hw:QI.wrap ((j:Int)+1)=((j+1:Nat):Int):=by rw[wrap64 (by omega) (by omega)];omega
  refine ah (λa=>?_) (λa=>?_)
  ·have N:j<s.fs[k].pins.length:=by rw[C] at a;simpa using a
   refine h.head.ld (c:=aq) (i:=2) (x:=ll) rfl ?_;refine h.ag.ld S (j:=5) (c:=aq) (y:=gg) rfl ?_;refine xN T N ?_;refine ah (λE=>?_) (λE=>?_)
   ·have Y:s.fs[k].pins[j]=c:=by simpa using E
    have:s.held c=some k:=by
     unfold Pl.held;rw[SM];exact⟨z,by rw[UL,<-Y];exact Re _,λj G=>by simpa using u j (by omega) G⟩
    rw[this] at O;exact O
   ·refine m N _ _ ⟨hw,rfl,λq Z a6=>?_⟩;rcases RA q j with r|r
    ·exact o q Z r
    ·have:q=j:=by omega
     subst this;simpa using E
  ·have af:j=s.fs[k].pins.length:=by rw[C] at a;simp at a;omega
   refine v z _ _ ⟨aD k (by omega),rfl,λq E a7=>?_⟩;rcases RA q k with r|r
   ·exact u q E r
   ·have:q=k:=by omega
    subst this;rw[Bool.eq_false_iff];intro hm;rw[UL] at hm;obtain⟨i,hi,e⟩:=Sb hm;exact o i hi (by omega) e
 ·have af:k=s.fs.length:=by rw[hn] at I;simp at I;omega
  have:s.held c=none:=by
   unfold Pl.held;rw[Tc];intro f al;obtain⟨j,G,rfl⟩:=Sb al;exact u j G (by omega)
  rw[this] at O;exact O
theorem pF {e:Int}{K:Int->aa->Prop}(h:bz ll zs D H p dp s)
  (c:∀H',bz ll zs D H' p dp (s.met e)->Step (λb=>D b\/fX ll zs p b) (λb=>D b\/fX ll zs p b) H H'->K e H'):ot.sp (aK p) e H K:=by
 refine ot.of ?_;unfold ot.vc;simp only[aw];have hw:=h.aj.wf.met e;refine ah (λa=>?_) (λa=>?_)
 ·have em:s.met e={s with wrong:=e}:=by unfold Pl.met bad;rw[if_pos a]
  refine h.aj.head.st (i:=6) (by decide:6<7) (by rfl) λH' r m z=>?_;have f:bH ll zs H' p dp (s.met e):=h.aj.tS (by rw[em];exact r) m (by rw[em]) hw;obtain⟨j,o⟩:=h.js f (by rw[em]) (m.mono λb _ q=>.inl q) (λb q=>.inl q);exact c H' j o
 ·have em:s.met e=s:=by unfold Pl.met bad;rw[a];rfl
  exact c H (by rw[em];exact h) (.refl _ _)
theorem qu.erase {H':aa}{e:Sl}{i:Nat}(h:qu H ll zs)(f:aF nG vh H' e (zs.eraseIdx i))(hm:∀u∈zs,∀b,ai u.2 b->b<H.size->H'[b]?=H[b]?):qu H' e (zs.eraseIdx i):=by
 refine⟨f,λz o=>?_,?_⟩
 ·have j:=Se o;exact(h.ent z j).ar λb q hl=>hm z j b q hl
 ·intro a c u v h1 m C;rw[Ta] at h1 m;split at h1<;>split at m<;>exact h.apart _ _ u v h1 m (by omega)
theorem qu.push {H':aa}{a:Sl}{f:Fr}(h:qu H ll zs)(C:f.pins=[])(c:aF nG vh H' a (zs++[(f,Sl.mk none 0 0)]))(hm:∀u∈zs,∀b,ai u.2 b->b<H.size->H'[b]?=H[b]?):qu H' a (zs++[(f,Sl.mk none 0 0)]):=by
 refine⟨c,λz E=>?_,?_⟩
 ·rcases QQ.1 E with q|q
  ·exact(h.ent z q).ar λb G hl=>hm z q b G hl
  ·simp at q;subst q;simp only[C];exact aF.nil _ _ _
 ·intro i j u v h1 I o b e m;have ex:∀(i:Nat) (u:RZ),(zs++[(f,Sl.mk none 0 0)])[i]?=some u->(zs[i]?=some u)\/(i=zs.length/\u=(f,Sl.mk none 0 0)):=by
   intro i u h1;by_cases hi:i<zs.length
   ·rw[Rf hi] at h1;exact .inl h1
   ·rw[RK (by omega)] at h1;have:i=zs.length:=by
     have:=(QJ.1 h1).1;simp at this;omega
    subst this;simp at h1;exact .inr ⟨rfl,h1.symm⟩
  rcases ex i u h1 with J|⟨N,rfl⟩<;>rcases ex j v I with K|⟨O,rfl⟩
  ·exact h.apart i j u v J K o b e m
  ·exact gY m
  ·exact gY e
  ·omega
theorem DC (i:Nat):Ex (zs.eraseIdx i)=(Ex zs).eraseIdx i:=nu _ _ _
theorem w6 {i:Nat}{K:Unit->aa->Prop}(h:bz ll zs D H p dp s)(hi:i<s.fs.length)
  (N:∀f H',bz f (zs.eraseIdx i) D H' p dp (s.drop i)->Step (λb=>D b\/fX ll zs p b) (λb=>D b\/fX f (zs.eraseIdx i) p b) H H'->K () H'):JC.sp (aK p) i H K:=by
 refine JC.of ?_;unfold JC.vc;simp only[aw];have hlen:=h.aj.wf.len;have j:=h.aj.wf.most;have hn:=h.aj.n;have O:=h.aj.len;have C:=h.aj.ag.arr.cap;refine h.aj.head.ld (c:=aq) (i:=2) (x:=ll) rfl ?_;refine⟨⟨by omega,by omega⟩,?_⟩;have t1:bX nG H (cM ll.a ll.c 0 7) (zs.take i):=by rw[rj];exact h.aj.ag.arr.rd.take
 refine aF.append (E:=nG) Kg (s:=Sl.mk none 0 0) (x:=⟨cM ll.a ll.c 0 7,(i:Int).toNat - 0,ll.c - 0⟩) (l:=[]) (aF.nil _ _ _) t1 (by simp;omega) (by simp;omega) (by simp;omega) λG H1 P g1 _=>?_;have f1:∀b,ai G b->H.size<=b:=λb a=>(g1.2 b a).resolve_left gY;have m1:Ext H H1:=g1.1.mono λb _ a=>gY a;have h1:=h.ext m1;refine h1.aj.head.ld (c:=aq) (i:=2) (x:=ll) rfl ?_;have hw:QI.wrap ((i:Int)+1)=((i+1:Nat):Int):=aD i (by omega);simp only[hw];refine⟨⟨by omega,by omega⟩,?_⟩;have t2:bX nG H1 (cM ll.a ll.c (i+1) 7) (zs.drop (i+1)):=bX.drop h1.aj.ag.arr.rd (by omega);simp only[QP];refine aF.append (E:=nG) Kg (s:=G) (x:=⟨cM ll.a ll.c (i+1) 7,ll.n - (i+1),ll.c - (i+1)⟩) P t2 (by simp;omega) (by simp;omega) (by simp;omega) λm R I g2 _=>?_;have z1:=m1.size;have z2:=g2.1.size;have f2:∀b,ai m b->H.size<=b:=λb a=>by
  rcases g2.2 b a with q|q
  ·exact f1 b q
  ·omega
 have m2:Ext H R:=⟨by omega,λb a _=>(g2.1.same b (by omega) λS=>by have:=f1 b S;omega).trans (m1.same b a id)⟩;have J:=h.ext m2;refine J.aj.head.st (i:=2) (by decide:2<7) (by rfl) λo T m3 s3=>?_;have V:=aI h.aj.head;have off:=bH.off h.aj.head h.aj.ag;have v:bH m (zs.eraseIdx i) o p dp (s.drop i):=by
  refine⟨T,?_,?_,h.aj.wf.drop i⟩
  ·refine J.aj.ag.erase ?_ (λu hu b a hl=>m3.same b hl λe=>off (e▸.inr ⟨u,hu,a⟩));rw[WS];simp only[SY] at I;exact I.ar λb a hl=>m3.same b hl λe=>by have:=f2 b a;omega
  ·show s.fs.eraseIdx i=_;rw[DC,h.aj.fs]
 have Y:Mod (fX ll zs p) H o:=⟨by omega,λb a z=>(m3.same b (by omega) λe=>z (.inl e)).trans (m2.same b a id)⟩;obtain⟨Z,q2⟩:=h.js v rfl Y (by
  rintro b (q|⟨u,hu,q⟩)
  ·exact .inr (f2 b q)
  ·exact .inl (.inr ⟨u,Se hu,q⟩))
 exact N m o Z q2
theorem kZ (h:aF nG vh H ll zs){i j:Nat}{z z':RZ}{v:gp}(c:zs[i]?=some z)(f:j<7)(m:jJ v=true)(o:nG.enc z'=(nG.enc z).set j v){K:aa->Prop}
  (q:∀H',aF nG vh H' ll (zs.set i z')->Mod (ai ll) H H'->H'.size=H.size->K H'):
  ae ll.a λa=>(0<=(i:Int)/\(i:Int)<(ll.n:Int))/\sT H ((a.add ((i:Int).toNat*7)).add j) v K:=by
 have hi:=(QJ.1 c).1;obtain⟨ad,e⟩:=bX.addr h.rd (by decide) (by omega);rw[e];refine⟨⟨by omega,by rw[h.n (by decide)];omega⟩,?_⟩;exact aF.st (E:=nG) h e c f m o (by simp[nG]) q
theorem xi (h:aF nG vh H ll zs){i j:Nat}{z:RZ}(e:zs[i]?=some z){c:fg}{y:c.α}(f:(nG.enc z)[j]?=some (c.enc y)){ad:hY}(m:ll.a=some ad):dh H ((ad.add ((i:Int).toNat*7)).add j)=some (c.enc y):=by
 obtain⟨o,a,q⟩:=bX.cell h.rd e f;rw[m] at a;cases a;rw[add_add];exact q
theorem bz.Ap {H':aa}{i:Nat}{f f':Fr}{g:Sl}{s':Pl}(h:bz ll zs D H p dp s)(m:zs[i]?=some (f,g))(c:aF nG vh H' ll (zs.set i (f',g)))(hm:Mod (ai ll) H H')
  (a:f'.pins=f.pins) (hs:s'.fs=s.fs.modify i λ_=>f') (hw:s'.WF) (hd:s'.d=s.d) (v:dR dp ll s'=dR dp ll s):
  bz ll (zs.set i (f',g)) D H' p dp s'/\Step (λb=>D b\/fX ll zs p b) (λb=>D b\/fX ll (zs.set i (f',g)) p b) H H':=by
 have e:=QL m;have o:s.fs[i]?=some f:=by rw[h.aj.fs];simp[Ex,m]
 obtain⟨t1,t2⟩:=h.aj.ag.set m c (z':=(f',g)) (by
  have:=h.aj.ag.ent _ e;simp only at this ⊢;rw[a];exact this.ar λb j hl=>hm.same b hl (h.aj.ag.gX e b j)) (λu hu b j _ hl=>hm.same b hl (h.aj.ag.gX hu b j)) (λb j=>.inl j)
 have z:bH ll (zs.set i (f',g)) H' p dp s':=by
  refine⟨?_,t1,?_,hw⟩
  ·rw[v];exact hm.at h.aj.head λq=>bH.off h.aj.head h.aj.ag (.inl q)
  ·rw[hs,bm o,h.aj.fs];simp[Ex,R9]
 exact h.js z hd (hm.mono λb _ q=>.inr (.inl q)) t2
theorem uR {i:Nat}{f:Fr}{g:Sl}{K:Int->aa->Prop}(h:bz ll zs D H p dp s)(m:zs[i]?=some (f,g))(o:s.d.aH+1<68719476736)
  (z:∀C u H',bz ll C u H' p dp (s.put i).1->Step (λb=>D b\/fX ll zs p b) (λb=>u b\/fX ll C p b) H H'->K (s.put i).2 H'):KQ.sp (aK p) i H K:=by
 refine KQ.of ?_;unfold KQ.vc;simp only[aw];have af:=QL m;have a:s.fs[i]?=some f:=by rw[h.aj.fs];simp[Ex,m]
 have al:=(QJ.1 a).1;have N:=Pl.fZ a;have V:=h.aj.wf.room f (QL a);have hn:=h.aj.n;have an:=h.aj.len;obtain⟨ad,I⟩:=bX.addr h.aj.ag.arr.rd (by decide) (by omega);have O:=h.lt;refine⟨λA=>ao A p tw (dR dp ll s)/\aF nG vh A ll zs,⟨h.aj.head,h.aj.ag.arr⟩,?_⟩;refine⟨ll,λA P=>by rw[bg];exact P.1.cell rfl,?_⟩;simp only[I,aw];refine⟨⟨by omega,by omega⟩,?_⟩;refine⟨(f.kind.toNat:Int),λA P=>xi (c:=ab .u8) P.2 m (j:=2) (y:=(f.kind.toNat:Int)) rfl I,?_⟩;refine h.aj.head.ld (c:=aq) (i:=2) (x:=ll) rfl ?_;refine h.aj.ag.ld m (j:=3) (c:=aN) (y:=cP f.b) rfl ?_;refine Cl λx4 H1 b1 R f1=>?_;have h1:=h.ext R;refine⟨⟨h1.aj.head,h1.aj.ag.arr⟩,?_⟩;refine uc b1 V λr H2 o2 S f2=>?_;have q:=h1.ext S;have z1:=R.size;have z2:=S.size;refine q.aj.head.ld (c:=aB) (i:=0) (x:=aK dp) rfl ?_;refine q.aj.head.ld (c:=aq) (i:=2) (x:=ll) rfl ?_;refine q.aj.ag.ld m (j:=0) (c:=aN) (y:=f.name) rfl ?_;refine q.aj.head.ld (c:=aq) (i:=2) (x:=ll) rfl ?_;refine q.aj.ag.ld m (j:=1) (c:=ab .i64) (y:=(f.page:Int)) rfl ?_;refine vZ q.cD (cg o2) (λad I hD=>?_) o λu Y a3 S3=>?_
 ·have:=f2 ad.block ⟨ad,I,rfl⟩;have:=O _ (.inl hD);omega
 have E:s.put i=if (s.d.write f.name f.page f.eO).2=0 then ((s.bJ (s.d.write f.name f.page f.eO).1).dz i Fr.clean,0) else (s.bJ (s.d.write f.name f.page f.eO).1,(s.d.write f.name f.page f.eO).2):=by
  unfold Pl.put;rw[N]
 rw[E] at z;obtain⟨J,q2⟩:=q.ks a3 S3;have G:Step (λb=>D b\/fX ll zs p b) (λb=>u b\/fX ll zs p b) H Y:=q2.ahead (R.trans S);show br ((s.d.write f.name f.page f.eO).2==0) _ _;refine ah (λT=>?_) (λT=>?_)
 ·have e:(s.d.write f.name f.page f.eO).2=0:=by simpa using T
  rw[if_pos e] at z;refine J.aj.head.ld (c:=aq) (i:=2) (x:=ll) rfl ?_;refine kZ J.aj.ag.arr m (j:=4) (z':=(f.clean,g)) (v:=.bool false) (by decide) rfl rfl λZ o4 m4 s4=>?_;obtain⟨u1,u2⟩:=J.Ap (i:=i) (s':=(s.bJ (s.d.write f.name f.page f.eO).1).dz i Fr.clean) m o4 m4 rfl (by
   show s.fs.modify i Fr.clean=s.fs.modify i λ_=>f.clean;rw[bm a,bm a]) ((h.aj.wf.bJ _).dz a rfl rfl rfl V) rfl rfl
  have:=z _ u Z u1 (G.trans u2);show K (s.d.write f.name f.page f.eO).2 Z;rw[e];exact this
 ·have e:(s.d.write f.name f.page f.eO).2≠0:=by simpa using T
  rw[if_neg e] at z;exact z zs u Y J G
theorem tL (f:Fr):∀(l:List Fr) (i:Nat) (b:Option (Nat×Int)),gL (l++[f]) i b=if f.pins.isEmpty&&nq f (gL l i b) then some (i+l.length,f.left) else gL l i b
 |[],i,b=>by simp[gL]
 |a::l,i,b=>by
   rw[TU];unfold gL;rw[tL f l (i+1)];simp only[Rr,Nat.add_assoc,Nat.add_comm 1]
theorem vH {K:Int->aa->Prop}(h:bz ll zs D H p dp s)(z:s.d.aH+1<68719476736)
  (q:∀O u P H',bz O u P H' p dp s.room.1->Step (λb=>D b\/fX ll zs p b) (λb=>P b\/fX O u p b) H H'->K s.room.2 H'):II.sp (aK p) H K:=by
 refine II.of ?_;unfold II.vc;simp only[aw];have hn:=h.aj.n;have hlen:=h.aj.wf.len;have al:=h.aj.wf.most;refine h.aj.head.ld (c:=aq) (i:=2) (x:=ll) rfl ?_;refine h.aj.head.ld (c:=ab .i64) (i:=1) (x:=(s.most:Int)) rfl ?_;refine ah (λv=>?_) (λv=>?_)
 ·have o:s.fs.length<s.most:=by simp at v;omega
  have e:s.room=(s,0):=by unfold Pl.room;rw[if_pos o]
  rw[e] at q;exact q ll zs D H h (.refl _ _)
 have an:¬s.fs.length<s.most:=by simp at v;omega
 refine av s.fs.length (λk x H1=>H1=H/\x.1=qn ((gL (s.fs.take k) 0 none).map (·.1))/\x.2=(k:Int)) ⟨rfl,rfl,rfl⟩ ?_;rintro k ⟨bi,i⟩ H1 next hk ⟨rfl,R,hi⟩ a
 simp only at R hi a ⊢;subst R;subst hi;refine h.aj.head.ld (c:=aq) (i:=2) (x:=ll) rfl ?_;refine ah (λv=>?_) (λv=>?_)
 ·have o:k<s.fs.length:=by rw[hn] at v;simpa using v
  have a1:s.fs[k]?=some s.fs[k]:=QK o;obtain⟨gg,J⟩:=h.aj.at a1;have m:gL (s.fs.take (k+1)) 0 none=if s.fs[k].pins.isEmpty&&nq s.fs[k] (gL (s.fs.take k) 0 none) then some (k,s.fs[k].left) else gL (s.fs.take k) 0 none:=by
   rw[QO o,tL];simp[TL (Nat.le_of_lt o)]
  have S:ud (s.fs.take k) (gL (s.fs.take k) 0 none):=by
   have:=uA (s.fs.take k) [] none (by intro f T;cases T);simpa using this
  have hw:=aD k (by omega);rw[hw];refine h.aj.head.ld (c:=aq) (i:=2) (x:=ll) rfl ?_;refine h.aj.ag.ld J (j:=5) (c:=aq) (y:=gg) rfl ?_;have V:=(h.aj.ag.ent _ (QL J)).n (by decide);simp only at V;have a6:(((gg.n:Int)==(0:Int))==true)=s.fs[k].pins.isEmpty:=by
   rw[V];cases s.fs[k].pins<;>simp;omega
  rw[a6];cases Y:s.fs[k].pins.isEmpty with
  |false=>
    rw[Y,Bool.false_and,if_neg (by simp)] at m;exact aE rfl (a o _ _ ⟨rfl,by rw[m],rfl⟩)
  |true=>
    refine aR rfl ?_;rw[Y,Bool.true_and] at m;rw[mr];cases N:gL (s.fs.take k) 0 none with
    |none=>
      rw[N] at m;refine aR rfl (a o _ _ ⟨rfl,?_,rfl⟩);rw[m];rfl
    |some jt=>
      obtain⟨j,t⟩:=jt;rw[N] at m S;obtain⟨fj,h1,h2,h3,h4⟩:=S;have a7:j<k:=by have:=(QJ.1 h1).1;simp at this;omega
      have a8:s.fs[j]?=some fj:=by rw[RF,if_pos a7] at h1;exact h1
      obtain⟨gj,bb⟩:=h.aj.at a8;refine aE rfl ?_;refine h.aj.head.ld (c:=aq) (i:=2) (x:=ll) rfl ?_;refine h.aj.ag.ld J (j:=6) (c:=ab .i64) (y:=s.fs[k].left) rfl ?_;refine h.aj.head.ld (c:=aq) (i:=2) (x:=ll) rfl ?_;refine h.aj.ag.ld bb (j:=6) (c:=ab .i64) (y:=fj.left) rfl ?_;rw[h3];refine ah (λC=>?_) (λC=>?_)
      ·have:nq s.fs[k] (some (j,t))=true:=C;rw[this,if_pos rfl] at m;exact a o _ _ ⟨rfl,by rw[m];rfl,rfl⟩
      ·have:nq s.fs[k] (some (j,t))=false:=C;rw[this,if_neg (by simp)] at m;exact a o _ _ ⟨rfl,by rw[m],rfl⟩
 ·have bd:k=s.fs.length:=by rw[hn] at v;simp at v;omega
  rw[bd,QS (QN _)];have E:(gL s.fs 0 none).map (·.1)=s.ky:=rfl;rw[E];unfold Pl.room at q;rw[if_neg an] at q;rw[mr];cases N:s.ky with
  |none=>
    rw[N] at q;exact q ll zs D _ h (.refl _ _)
  |some i=>
    rw[N] at q;simp only at q;refine aE rfl ?_;obtain⟨f,T,bl,_⟩:=Pl.jZ N;obtain⟨g,J⟩:=h.aj.at T;have bh:=Pl.fZ T;have Z:=(QJ.1 T).1;rw[bh] at q;refine h.aj.head.ld (c:=aq) (i:=2) (x:=ll) rfl ?_;refine h.aj.ag.ld J (j:=4) (c:=aC) (y:=f.dirty) rfl ?_;cases af:f.dirty with
    |true=>
      rw[af,if_pos rfl] at q;refine aR rfl ?_;refine uR h J z λu P H' h' S'=>?_;refine ah (λC=>?_) (λC=>?_)
      ·have G:¬(s.put i).2=0:=by simpa using C
       rw[if_neg G] at q;exact q ll u P H' h' S'
      ·have G:(s.put i).2=0:=by simpa using C
       rw[if_pos G] at q;refine w6 h' (by rw[Pl.xT];exact Z) λI H2 h2 S2=>?_;exact q I _ P H2 h2 (S'.trans S2)
    |false=>
      rw[af,if_neg (by simp)] at q;refine aE rfl ?_;exact w6 h Z λI H2 h2 S2=>q I _ D H2 h2 S2
theorem vI {t:Pl}{i:Nat}{f:Fr}{g:Sl}{K:Int->aa->Prop}(hd:ao H p tw (dR dp ll t))(a:qu H ll zs)(C:zs[i]?=some (f,g))(af:zs.length<=4097)(al:f.pins.length<1099511627775)(an:0<=t.next)(a1:t.next<9223372036854775807)
  (hK:∀g' H',ao H' p tw (dR dp ll {t with next:=fT (t.next+1)})->qu H' ll (zs.set i (Fr.bF t.next f,g'))->Mod (fX ll zs p) H H'->(∀b,Eh ll (zs.set i (Fr.bF t.next f,g')) b->Eh ll zs b\/H.size<=b)->K t.next H'):IY.sp (aK p) i H K:=by
 refine IY.of ?_;unfold IY.vc;simp only[aw];have m:=QL C;have a6:=(QJ.1 C).1;have hn:=a.arr.n (by decide);have Z:=a.ent _ m;simp only at Z;obtain⟨ad,O⟩:=bX.addr a.arr.rd (by decide) (by omega);have off:=bH.off hd a;have o:=a.gX m;simp only at o;refine⟨λA=>ao A p tw (dR dp ll t)/\aF nG vh A ll zs,⟨hd,a.arr⟩,?_⟩;refine⟨ll,λA G=>by rw[bg];exact G.1.cell rfl,?_⟩;refine⟨ll,λA G=>by rw[bg];exact G.1.cell rfl,?_⟩;simp only[O,aw];refine⟨⟨by omega,by omega⟩,?_⟩;refine⟨g,λA G=>xi (c:=aq) G.2 C (j:=5) (y:=g) rfl O,?_⟩;refine hd.ld (c:=ab .i64) (i:=3) (x:=t.next) rfl ?_;refine aF.CF (E:=EI) Hr (x:=t.next) Z rfl (by omega) (by omega) _ (λH1 s1 m1=>⟨hd.ext m1,a.arr.ext m1⟩) λs2 H2 P g2 _=>?_;have d2:ao H2 p tw (dR dp ll t):=hd.mod g2.1 λh=>off (.inr ⟨_,m,h⟩);have a2:aF nG vh H2 ll zs:=a.arr.ar λb h hl=>g2.1.same b hl λhh=>o b hh h;refine⟨⟨d2,a2⟩,?_⟩;have I:=kZ a2 C (j:=5) (z':=(Fr.bF t.next f,s2)) (v:=s2.v) (by decide) rfl rfl (K:=λN=>ld (ab .i64) N (Ru ⟨p,0,none⟩ 3) λ(R:Int)=>st N (Ru ⟨p,0,none⟩ 3) (.int .i64 (QI.wrap (R+(1:Int)))) λz=>ld (ab .i64) z (Ru ⟨p,0,none⟩ 3) λ(S:Int)=>K (QI.wrap (S - (1:Int))) z) λN o3 m3 s3=>?_
 ·simp only[O,aw] at I;exact I
 have d3:ao N p tw (dR dp ll t):=d2.mod m3 λh=>off (.inl h);refine d3.ld (c:=ab .i64) (i:=3) (x:=t.next) rfl ?_;refine d3.st (i:=3) (by decide:3<7) (by rfl) λz d4 m4 s4=>?_;have J:ao z p tw (dR dp ll {t with next:=fT (t.next+1)}):=d4;refine J.ld (c:=ab .i64) (i:=3) (x:=fT (t.next+1)) rfl ?_;have hw:QI.wrap (fT (t.next+1) - 1)=t.next:=by
  unfold fT;rw[wrap64 (x:=t.next+1) (by omega) (by omega),wrap64 (by omega) (by omega)];omega
 rw[hw];have z2:=g2.1.size;have T:∀b,ai s2 b->b≠p:=λb h e=>by
  obtain⟨c,q⟩:=P.obj b h;rw[e] at q;exact absurd (aM d2 q) (by decide)
 have V:∀b,ai s2 b->¬ai ll b:=P.apart a2 (by decide);obtain⟨t1,t2⟩:=a.set (H':=z) C (z':=(Fr.bF t.next f,s2)) (o3.ar λb h hl=>m4.same b hl λe=>off (e▸.inl h))
  (P.ar λb h hl=>(m4.same b (by omega) (T b h)).trans (m3.same b hl (V b h)))
  (λu hu b h Y hl=>(m4.same b (by omega) λe=>off (e▸.inr ⟨u,hu,h⟩)).trans ((m3.same b (by omega) (a.gX hu b h)).trans (g2.1.same b hl Y)))
  (λb h=>g2.2 b h)
 refine hK s2 z J t1 ?_ t2;exact((g2.1.mono λb _ q=>.inr (.inr ⟨_,m,q⟩)).trans (m3.mono λb _ q=>.inr (.inl q))).trans (m4.mono λb _ q=>.inl q)
theorem Gb {i:Nat}{f:Fr}{g:Sl}{K:Int->aa->Prop}(h:bz ll zs D H p dp s)(j:zs[i]?=some (f,g))(m:s.next<1099511627775)
  (o:∀c H',bz ll c D H' p dp (s.iG i)->Step (λb=>D b\/fX ll zs p b) (λb=>D b\/fX ll c p b) H H'->K s.next H'):IY.sp (aK p) i H K:=by
 have a:s.fs[i]?=some f:=by rw[h.aj.fs];simp[Ex,j]
 have q:f.pins.length<=s.pins:=l8 (λf:Fr=>f.pins.length) s.fs i f a;have J:=h.aj.wf.tick;have hlen:=h.aj.wf.len;have e:=h.aj.wf.most;have u:=h.aj.len;refine vI (t:=s) h.aj.head h.aj.ag j (by omega) (by omega) (by omega) (by omega) λg' H' v r' z C=>?_;have E:bH ll (zs.set i (Fr.bF s.next f,g')) H' p dp (s.iG i):=by
  refine⟨v,r',?_,h.aj.wf.iG a (by omega)⟩;show s.fs.modify i (Fr.bF s.next)=_;rw[bm a,h.aj.fs];simp[Ex,R9]
 obtain⟨G,I⟩:=h.js E rfl z C;exact o _ H' G I
theorem wi {f:Fr}{K:Int->aa->Prop}(h:bz ll zs D H p dp s)(hl:s.fs.length<s.most)(bd:s.next<1099511627775)(hk:s.find f.name f.page=none)(j:f.b.length<=504)(T:f.page<1048577)(V:f.name.size<=9223372036854775807)(Y:f.pins=[])(v:f.left=0)(Z:f.dirty=false)
  (hK:∀z C H',bz z C D H' p dp (s.take f)->Step (λb=>D b\/fX ll zs p b) (λb=>D b\/fX z C p b) H H'->K s.next H'):
  ER.sp (aK p) f.name (f.page:Int) (f.kind.toNat:Int) (cP f.b) false (Sl.mk none 0 0) (0:Int) H K:=by
 refine ER.of ?_;unfold ER.vc;simp only[aw];have ht:=h.aj.wf.tick;have hlen:=h.aj.wf.len;have af:=h.aj.wf.most;have al:=h.aj.len;have hn:=h.aj.n;have an:=h.aj.wf.take hl (by omega) hk j T V Y v;refine au λH1 s1 r1 S=>?_;have h1:=h.ext S;refine⟨λA=>ao A p tw (dR dp ll s),h1.aj.head,?_⟩;refine⟨ll,λA hA=>by rw[bg];exact hA.cell rfl,?_⟩;refine ao.cN (x:=(f.name,(f.page:Int),(f.kind.toNat:Int),cP f.b,false,Sl.mk none 0 0,(0:Int))) r1 rfl rfl ?_;refine aF.CF (E:=nG) Kg (x:=(f,Sl.mk none 0 0)) h1.aj.ag.arr (by simp[nG,v,Z]) (by omega) (by omega) (λA=>ao A p tw (dR dp ll s)) (λH2 s2 m2=>h1.aj.head.ext m2) λa H3 o3 g3 _=>?_;have off:=bH.off h.aj.head h.aj.ag;have d3:ao H3 p tw (dR dp ll s):=h1.aj.head.mod g3.1 λq=>off (.inl q);refine d3.st (i:=2) (by decide:2<7) (by rfl) λH4 d4 m4 s4=>?_;have o:ao H4 p tw (dR dp a s):=d4;refine o.ld (c:=ab .i64) (i:=5) (x:=(s.peak:Int)) rfl ?_;refine o.ld (c:=aq) (i:=2) (x:=a) rfl ?_;have a1:=o3.n (by decide);have m:a.n=s.fs.length+1:=by rw[a1];simp;omega
 have ep:(if (a.n:Int)>(s.peak:Int) then (a.n:Int) else (s.peak:Int))=((max s.peak (s.fs.length+1):Nat):Int):=by
  rw[m];split<;>omega
 simp only[ep];refine o.st (i:=5) (by decide:5<7) (by rfl) λG d5 m5 s5=>?_;have I:ao G p tw (dR dp a (s.add f)):=d5;refine I.ld (c:=aq) (i:=2) (x:=a) rfl ?_;have a6:QI.wrap ((a.n:Int) - 1)=(s.fs.length:Int):=by rw[m,wrap64 (by omega) (by omega)];omega
 rw[a6];have z1:=S.size;have z3:=g3.1.size;have J:∀b,ai a b->b≠p:=λb j e=>by
  obtain⟨c,q⟩:=o3.obj b j;rw[e] at q;exact absurd (aM d3 q) (by decide)
 have N:Mod (fX ll zs p) H G:=(((Ext.mod S).trans (g3.1.mono λb _ q=>.inr (.inl q))).trans (m4.mono λb _ q=>.inl q)).trans (m5.mono λb _ q=>.inl q);have o5:aF nG vh G a (zs++[(f,Sl.mk none 0 0)]):=o3.ar λb j hl=>(m5.same b (by omega) (J b j)).trans (m4.same b hl (J b j));have a7:qu G a (zs++[(f,Sl.mk none 0 0)]):=by
  refine h.aj.ag.push Y o5 λu hu b j hl=>?_;have O:b≠p:=λe=>off (e▸.inr ⟨u,hu,j⟩);exact(m5.same b (by omega) O).trans ((m4.same b (by omega) O).trans ((g3.1.same b (by omega) (h.aj.ag.gX hu b j)).trans (S.same b hl id)))
 have a8:(zs++[((f,Sl.mk none 0 0):RZ)])[s.fs.length]?=some (f,Sl.mk none 0 0):=by rw[al];simp
 refine vI (t:=s.add f) I a7 a8 (by simp;omega) (by rw[Y];simp) (by show 0<=s.next;omega) (by show s.next<_;omega) λg' H' d' r' m' o'=>?_;have bb:bH a ((zs++[(f,Sl.mk none 0 0)]).set s.fs.length (Fr.bF s.next f,g')) H' p dp (s.take f):=by
  refine⟨d',r',?_,an⟩;show (s.fs++[f]).modify s.fs.length (Fr.bF s.next)=_;have P:(s.fs++[f])[s.fs.length]?=some f:=by simp
  rw[bm P,h.aj.fs];simp[Ex,R9]
 have R:∀b,Eh a (zs++[(f,Sl.mk none 0 0)]) b->Eh ll zs b\/H.size<=b:=by
  rintro b (q|⟨u,hu,q⟩)
  ·rcases g3.2 b q with r|r
   ·exact .inl (.inl r)
   ·exact .inr (by omega)
  ·rcases QQ.1 hu with r|r
   ·exact .inl (.inr ⟨u,r,q⟩)
   ·simp at r;subst r;exact absurd q gY
 have zz:H.size<=G.size:=N.size;obtain⟨q1,q2⟩:=h.js bb rfl (N.trans' m' (by
  rintro b j (q|q)
  ·exact .inl q
  ·rcases R b q with r|r
   ·exact .inr r
   ·omega)) (λb j=>by
  rcases o' b j with q|q
  ·exact R b q
  ·exact .inr (by omega))
 exact hK _ _ H' q1 q2
end
section
variable {F:Nat->Prop}{H:aa}{p dp:Nat}{s:Pl}{n:ByteArray}
theorem Hn {D:Nat->Prop}{d:Dk}{m:Nat}{K:(Option hY×Int)->aa->Prop}(hd:cA D H dp d)(f:8<=m)(hm:m<=4096)
  (o:∀F p H',ax F H' p dp (me d m)->Ext H H'->(∀b,F b->D b\/H.size<=b)->K (aK p,0) H'):L8.sp (aK dp) (m:Int) H K:=by
 refine L8.of ?_;unfold L8.vc;refine aE rfl ?_;refine aE (by simp;omega) ?_;refine aE (by simp;omega) ?_;refine au λH1 s1 u e=>?_;have a:=hd.lt;have v:bH (Sl.mk none 0 0) [] H1 H.size dp (me d m):=⟨u,⟨aF.nil _ _ _,by simp,by intro i j z z' h;simp at h⟩,rfl,GQ f hm⟩;refine o (λb=>D b\/fX (Sl.mk none 0 0) [] H.size b) H.size H1 ⟨Sl.mk none 0 0,[],D,⟨v,hd.ar λb _ hl=>e.same b hl id,?_⟩,λ_=>V4⟩ e ?_
 ·rintro b C (q|q|⟨z,c,_⟩)
  ·have:=a b C;omega
  ·exact gY q
  ·cases c
 ·rintro b (q|q|q|⟨z,c,_⟩)
  ·exact .inl q
  ·exact .inr (by omega)
  ·exact absurd q gY
  ·cases c
theorem yM {k:Int}{K:(Int×Int)->aa->Prop}(h:ax F H p dp s)(hn:n.size<=9223372036854775807)(Y:s.d.aH+2<68719476736)(I:s.next<1099511627775)
  (hK:∀F' H',ax F' H' p dp (s.bF n k).1->Step F F' H H'->K ((s.bF n k).2.1,(s.bF n k).2.2) H'):Jt.sp (aK p) n k H K:=by
 obtain⟨ll,zs,D,g,hF⟩:=h;refine Jt.of ?_;unfold Jt.vc;simp only[aw];have out:∀{o:Sl} {j:List RZ} {E:Nat->Prop} {A:aa} {t:Pl} {a e:Int},bz o j E A p dp t->Step (λb=>D b\/fX ll zs p b) (λb=>E b\/fX o j p b) H A->s.bF n k=(t,a,e)->K (a,e) A:=by
  intro o j E A t a e h1 J he;obtain⟨F',q1,q2⟩:=h1.out hF J;have:=hK F' A (by rw[he];exact q1) q2;rw[he] at this;exact this
 have fin:∀{o:Sl} {j:List RZ} {E:Nat->Prop} {A:aa} {t:Pl} {e:Int},bz o j E A p dp t->Step (λb=>D b\/fX ll zs p b) (λb=>E b\/fX o j p b) H A->s.bF n k=(t.met e,0,e)->
   ot.sp (aK p) e A λr H'=>K (0,r) H':=by
  intro o j E A t e h1 J he;exact pF h1 λA' h2 S2=>out h2 (J.trans S2) he
 refine g.aj.head.ld (c:=ab .i64) (i:=6) (x:=s.wrong) rfl ?_;refine ah (λhw=>?_) (λhw=>?_)
 ·have z:s.wrong≠0:=by simpa using hw
  refine g.aj.head.ld (c:=ab .i64) (i:=6) (x:=s.wrong) rfl ?_;exact out g (.refl _ _) (by unfold Pl.bF;rw[if_pos z])
 have z:¬s.wrong≠0:=by simpa using hw
 refine vM g.aj ?_;rw[Ae];cases hi:s.find n k with
 |some i=>
   obtain⟨f,hf,_,_⟩:=Pl.nK hi;obtain⟨gg,hz⟩:=g.aj.at hf;exact aR rfl (Gb g hz I λj A h1 J=>out h1 J (by unfold Pl.bF;rw[if_neg z,hi]))
 |none=>
   refine aE rfl ?_;refine g.aj.head.ld (c:=aB) (i:=0) (x:=aK dp) rfl ?_;refine nZ g.cD (by omega) λH3 e3=>?_;have g3:=g.ext e3;have Z:Step (λb=>D b\/fX ll zs p b) (λb=>D b\/fX ll zs p b) H H3:=Step.ext e3;have v:s.bF n k=match s.load n k with|(q,some f,_)=>(q.take f,q.next,0)|(q,none,e)=>(q.met e,0,e):=by unfold Pl.bF;rw[if_neg z,hi];rfl
   have m:∀{t:Pl} {e:Int},s.load n k=(t,none,e)->s.bF n k=(t.met e,0,e):=λhe=>by rw[v,he]
   have S:=Dk.kG g.cD.wf n;by_cases hl:(s.d.len n).2=0
   ·by_cases N:k<0\/k>=(s.d.len n).1
    ·refine aR (by simp[hl];omega) (aE rfl (aR rfl (fin g3 Z (m ?_))));unfold Pl.load;rw[if_neg (by simp[hl]),if_pos N]
    ·refine aE (by simp[hl];omega) (aR (by simp[hl]) ?_);refine vH g3 (by omega) λan a1 D4 H4 T S4=>?_;have C:=Z.trans S4;have a6:=s.ko;by_cases G:s.room.2=0
     ·refine aE (by simp[G]) ?_;refine T.aj.head.ld (c:=aB) (i:=0) (x:=aK dp) rfl ?_;refine vT T.cD (by omega) λr H5 b5 V f5 c5=>?_;have h5:=T.ext V;by_cases u:(s.room.1.d.read n k).2=0
      ·refine aE (by simp[u]) ?_;have O:=(Dk.zY s.room.1.d n k).2 u;refine HT b5 c5 O (λho H6 P=>?_) (λkd b sl H6 ho af o6 P f6=>?_)
       ·refine aR rfl (fin (h5.ext P) ((C.behind V).behind P) (m ?_));unfold Pl.load;rw[if_neg (by simp[hl]),if_neg N,if_neg (by simp[G]),if_neg (by simp[u]),ho]
       ·refine aE rfl ?_;refine lC (cg o6) ?_;obtain⟨pg,rfl⟩:∃pg:Nat,k=pg:=⟨k.toNat,by omega⟩;have R:=s.cI;have al:=g.aj.wf.yh;refine wi (f:=⟨n,pg,kd,b,false,[],0⟩) (h5.ext P) (by rw[R.1];exact al.2 G) (by rw[R.2.1];exact I) (Pl.nX hi) af (by show pg<_;omega) hn rfl rfl rfl λa7 a8 H7 h7 S7=>?_;refine out h7 (((C.behind V).behind P).trans S7) ?_;rw[v];unfold Pl.load;rw[if_neg (by simp[hl]),if_neg N,if_neg (by simp[G]),if_neg (by simp[u]),ho];simp
      ·refine aR (by simp[u]) (fin h5 (C.behind V) (m ?_));unfold Pl.load;rw[if_neg (by simp[hl]),if_neg N,if_neg (by simp[G]),if_pos (by simpa using u)]
     ·refine aR (by simp[G]) (fin T C (m ?_));unfold Pl.load;rw[if_neg (by simp[hl]),if_neg N,if_pos (by simpa using G)]
   ·refine aE (by simp[hl]) (aE (by simp[hl]) (aR (by simp[hl]) (fin g3 Z (m ?_))));unfold Pl.load;rw[if_pos (by simpa using hl)]
theorem Co {K:(Int×Int×Int)->aa->Prop}(h:ax F H p dp s)(hn:n.size<=9223372036854775807)(N:s.d.aH+2<68719476736)(O:s.next<1099511627775)(z:s.Fit)
  (hK:∀F' H',ax F' H' p dp (s.fresh n).1->Step F F' H H'->K ((s.fresh n).2.1,(s.fresh n).2.2.1,(s.fresh n).2.2.2) H'):Lz.sp (aK p) n H K:=by
 obtain⟨ll,zs,D,g,hF⟩:=h;refine Lz.of ?_;unfold Lz.vc;simp only[aw];have out:∀{j:Sl} {m:List RZ} {u:Nat->Prop} {A:aa} {t:Pl} {a b e:Int},bz j m u A p dp t->Step (λb=>D b\/fX ll zs p b) (λb=>u b\/fX j m p b) H A->s.fresh n=(t,a,b,e)->K (a,b,e) A:=by
  intro j m u A t a b e h1 P he;obtain⟨F',I,R⟩:=h1.out hF P;have:=hK F' A (by rw[he];exact I) R;rw[he] at this;exact this
 have fin:∀{j:Sl} {m:List RZ} {u:Nat->Prop} {A:aa} {t:Pl} {e:Int},bz j m u A p dp t->Step (λb=>D b\/fX ll zs p b) (λb=>u b\/fX j m p b) H A->s.fresh n=(t.met e,0,0,e)->
   ot.sp (aK p) e A λr H'=>K (0,0,r) H':=by
  intro j m u A t e h1 P he;exact pF h1 λA' h2 S2=>out h2 (P.trans S2) he
 refine g.aj.head.ld (c:=ab .i64) (i:=6) (x:=s.wrong) rfl ?_;refine ah (λhw=>?_) (λhw=>?_)
 ·have o:s.wrong≠0:=by simpa using hw
  refine g.aj.head.ld (c:=ab .i64) (i:=6) (x:=s.wrong) rfl ?_;exact out g (.refl _ _) (by unfold Pl.fresh;rw[if_pos o])
 have o:¬s.wrong≠0:=by simpa using hw
 refine g.aj.head.ld (c:=aB) (i:=0) (x:=aK dp) rfl ?_;refine nZ g.cD (by omega) λH3 Z=>?_;have g3:=g.ext Z;have S3:Step (λb=>D b\/fX ll zs p b) (λb=>D b\/fX ll zs p b) H H3:=Step.ext Z;have J:=Dk.kG g.cD.wf n;by_cases hl:(s.d.len n).2=0
 ·refine aR (by simp[hl]) ?_;refine vH g3 (by omega) λaf al D4 H4 S S4=>?_;have C:=S3.trans S4;have an:=s.ko;by_cases v:s.room.2=0
  ·refine aE (by simp[v]) ?_;refine uc (kind:=0) (l:=[]) (bW.nil _) (by simp) λr H5 o5 e5 f5=>?_;have T:=S.ext e5;refine T.aj.head.ld (c:=aB) (i:=0) (x:=aK dp) rfl ?_;have V:=S.lt;refine vZ T.cD (cg o5) (λad ha hD=>?_) (by omega) λD6 H6 a6 S6=>?_
   ·have:=f5 ad.block ⟨ad,ha,rfl⟩;have:=V _ (.inl hD);omega
   obtain⟨I,R⟩:=T.ks a6 S6;have E:=(C.behind e5).trans R;by_cases q:(s.room.1.d.write n (s.d.len n).1 (cT 0 [])).2=0
   ·refine aE (by simp[q]) ?_;have G:=s.cI;have Y:=g.aj.wf.yh;refine wi (f:=⟨n,(s.d.len n).1,0,[],false,[],0⟩) I (by show s.room.1.fs.length<s.room.1.most;rw[G.1];exact Y.2 v) (by show s.room.1.next<_;rw[G.2.1];exact O) (Pl.nX (z.new hl)) (by simp) (by show (s.d.len n).1<_;omega) hn rfl rfl rfl λa1 a7 H7 h7 S7=>?_;refine out h7 (E.trans S7) ?_;unfold Pl.fresh;rw[if_neg o,if_neg (by simp[hl]),if_neg (by simp[v]),if_neg (by simp[q])];rfl
   ·refine aR (by simp[q]) (fin I E ?_);unfold Pl.fresh;rw[if_neg o,if_neg (by simp[hl]),if_neg (by simp[v]),if_pos (by simpa using q)]
  ·refine aR (by simp[v]) (fin S C ?_);unfold Pl.fresh;rw[if_neg o,if_neg (by simp[hl]),if_pos (by simpa using v)]
 ·refine aE (by simp[hl]) (aR (by simp[hl]) (fin g3 S3 ?_));unfold Pl.fresh;rw[if_neg o,if_pos (by simpa using hl)]
theorem Ec {c:Int}{K:(Int×Sl×Int)->aa->Prop}(h:ax F H p dp s)(m:s.next<9223372036854775807)
  (o:∀sl H',bW H' sl (s.get c).2.1->Ext H H'->(∀b,ai sl b->H.size<=b)->sl.n<=sl.c->K (((s.get c).1.toNat:Int),sl,(s.get c).2.2) H'):Mg.sp (aK p) c H K:=by
 obtain⟨ll,zs,D,g,O⟩:=h;refine Mg.of ?_;unfold Mg.vc;simp only[aw];have none_:∀e:Int,s.get c=(0,[],e)->K (0,Sl.mk none 0 0,e) H:=by
  intro e he;have:=o (Sl.mk none 0 0) H (by rw[he];exact bW.nil _) (.refl _ _) (λb q=>absurd q gY) (QN _);rw[he] at this;exact this
 refine rm g.aj m ?_;refine g.aj.head.ld (c:=ab .i64) (i:=6) (x:=s.wrong) rfl ?_;refine ah (λhw=>?_) (λhw=>?_)
 ·have a:s.wrong≠0:=by simpa using hw
  refine g.aj.head.ld (c:=ab .i64) (i:=6) (x:=s.wrong) rfl ?_;exact none_ _ (by unfold Pl.get;rw[if_pos a])
 have a:¬s.wrong≠0:=by simpa using hw
 rw[mr];cases hi:s.held c with
 |none=>exact aR rfl (none_ _ (by unfold Pl.get;rw[if_neg a,hi]))
 |some i=>
   refine aE rfl ?_;obtain⟨f,u,_⟩:=Pl.iQ hi;obtain⟨P,C⟩:=g.aj.at u;have G:=(QJ.1 u).1;have hn:=g.aj.n;have I:=g.aj.len;obtain⟨ad,E⟩:=bX.addr g.aj.ag.arr.rd (by decide) (by omega);have he:s.get c=(f.kind,f.b,0):=by unfold Pl.get;rw[if_neg a,hi];simp only;rw[Pl.fZ u]
   rw[he] at o;refine⟨λA=>ao A p tw (dR dp ll s)/\aF nG vh A ll zs,⟨g.aj.head,g.aj.ag.arr⟩,?_⟩;refine⟨ll,λA v=>by rw[bg];exact v.1.cell rfl,?_⟩;simp only[E,aw];refine⟨⟨by simp only[qn];omega,by simp only[qn];omega⟩,?_⟩;refine⟨(f.kind.toNat:Int),λA v=>xi (c:=ab .u8) v.2 C (j:=2) (y:=(f.kind.toNat:Int)) rfl E,?_⟩;refine g.aj.head.ld (c:=aq) (i:=2) (x:=ll) rfl ?_;refine g.aj.ag.ld C (j:=3) (c:=aN) (y:=cP f.b) rfl ?_;refine nr λJ H1 N z f1 c1=>?_;exact⟨⟨g.aj.head.ext z,g.aj.ag.arr.ext z⟩,o J H1 N z f1 c1⟩
theorem yW {c:Int}{kd:UInt8}{b:Sl}{l:List UInt8}{K:Int->aa->Prop}(h:ax F H p dp s)(z:s.next<9223372036854775807)(R:bW H b l)(C:∀ad,b.a=some ad->¬F ad.block)
  (E:∀F' H',ax F' H' p dp (s.set c kd l).1->Step F F' H H'->K (s.set c kd l).2 H'):Jk.sp (aK p) c (kd.toNat:Int) b H K:=by
 have G:=h;obtain⟨ll,zs,D,g,S⟩:=h;refine Jk.of ?_;unfold Jk.vc;simp only[aw];have stay:∀e:Int,s.set c kd l=(s,e)->K e H:=by
  intro e he;have:=E F H (by rw[he];exact G) (.refl _ _);rw[he] at this;exact this
 refine rm g.aj z ?_;refine g.aj.head.ld (c:=ab .i64) (i:=6) (x:=s.wrong) rfl ?_;refine ah (λhw=>?_) (λhw=>?_)
 ·have a:s.wrong≠0:=by simpa using hw
  refine g.aj.head.ld (c:=ab .i64) (i:=6) (x:=s.wrong) rfl ?_;exact stay _ (by unfold Pl.set;rw[if_pos a])
 have a:¬s.wrong≠0:=by simpa using hw
 rw[mr];cases hi:s.held c with
 |none=>exact aR rfl (stay _ (by unfold Pl.set;rw[if_neg a,hi]))
 |some i=>
   refine aE rfl ?_;have Y:=R.n;refine ah (λI=>?_) (λI=>?_)
   ·have J:l.length>504:=by simp at I;omega
    exact stay _ (by unfold Pl.set;rw[if_neg a,hi];simp only;rw[if_pos J])
   have hle:¬l.length>504:=by simp at I;omega
   have he:s.set c kd l=(s.dz i (Fr.set kd l),0):=by unfold Pl.set;rw[if_neg a,hi];simp only;rw[if_neg hle]
   rw[he] at E;obtain⟨f,u,_⟩:=Pl.iQ hi;obtain⟨o,N⟩:=g.aj.at u;have Z:=(QJ.1 u).1;have m:=(QJ.1 N).1;have off:=bH.off g.aj.head g.aj.ag;refine g.aj.head.ld (c:=aq) (i:=2) (x:=ll) rfl ?_;refine kZ g.aj.ag.arr N (j:=2) (z':=({f with kind:=kd},o)) (v:=.int .u8 (kd.toNat:Int)) (by decide) rfl rfl λH1 o1 m1 s1=>?_;have d1:ao H1 p tw (dR dp ll s):=g.aj.head.mod m1 λq=>off (.inl q);refine d1.ld (c:=aq) (i:=2) (x:=ll) rfl ?_;have b1:bW H1 b l:=R.ar λad ha hl=>m1.same _ hl λq=>C ad ha ((S _).2 (.inr (.inr (.inl q))));refine lC b1 ?_;have O:(zs.set i ({f with kind:=kd},o))[i]?=some ({f with kind:=kd},o):=by simp[m]
   refine kZ o1 O (j:=3) (z':=({f with kind:=kd,b:=l},o)) (v:=.string (cP l)) (by decide) rfl rfl λH2 T m2 s2=>?_;have d2:ao H2 p tw (dR dp ll s):=d1.mod m2 λq=>off (.inl q);refine d2.ld (c:=aq) (i:=2) (x:=ll) rfl ?_;rw[Xe] at T;have P:(zs.set i ({f with kind:=kd,b:=l},o))[i]?=some ({f with kind:=kd,b:=l},o):=by simp[m]
   refine kZ T P (j:=4) (z':=(Fr.set kd l f,o)) (v:=.bool true) (by decide) rfl rfl λH3 V m3 s3=>?_;rw[Xe] at V;obtain⟨u1,u2⟩:=g.Ap (i:=i) (s':=s.dz i (Fr.set kd l)) N V ((m1.trans m2).trans m3) rfl (by
    show s.fs.modify i (Fr.set kd l)=s.fs.modify i λ_=>Fr.set kd l f;rw[bm u,bm u]) (g.aj.wf.dz u rfl rfl rfl (by simp only[Fr.set];omega)) rfl rfl
   obtain⟨F',q1,q2⟩:=u1.out S u2;exact E F' H3 q1 q2
theorem kO {c:Int}{K:Int->aa->Prop}(h:ax F H p dp s)(bd:s.next<1099511627775)
  (hK:∀F' H',ax F' H' p dp (s.bk c).1->Step F F' H H'->K (s.bk c).2 H'):GC.sp (aK p) c H K:=by
 have al:=h;obtain⟨ll,zs,D,g,hF⟩:=h;have V:=g.aj.wf.bk c (by omega);refine GC.of ?_;unfold GC.vc;simp only[aw];have stay:∀e:Int,s.bk c=(s,e)->K e H:=by
  intro e he;have:=hK F H (by rw[he];exact al) (.refl _ _);rw[he] at this;exact this
 refine rm g.aj (by omega) ?_;refine g.aj.head.ld (c:=ab .i64) (i:=6) (x:=s.wrong) rfl ?_;refine ah (λhw=>?_) (λhw=>?_)
 ·have G:s.wrong≠0:=by simpa using hw
  refine g.aj.head.ld (c:=ab .i64) (i:=6) (x:=s.wrong) rfl ?_;exact stay _ (by unfold Pl.bk;rw[if_pos G])
 have G:¬s.wrong≠0:=by simpa using hw
 rw[mr];cases hi:s.held c with
 |none=>exact aR rfl (stay _ (by unfold Pl.bk;rw[if_neg G,hi]))
 |some i=>
   refine aE rfl ?_;have he:s.bk c=({s with fs:=s.fs.modify i (Fr.bk c (fT (s.tick+1))),tick:=fT (s.tick+1)},0):=by unfold Pl.bk;rw[if_neg G,hi]
   rw[he] at hK V;obtain⟨f,hf,_⟩:=Pl.iQ hi;obtain⟨gg,P⟩:=g.aj.at hf;have an:=QL P;have bh:=(QJ.1 hf).1;have Y:=(QJ.1 P).1;have off:=bH.off g.aj.head g.aj.ag;have bl:f.pins.length<=s.pins:=l8 (λf:Fr=>f.pins.length) s.fs i f hf;have ht:=g.aj.wf.tick;have I:=g.aj.ag.ent _ an;simp only at I;have Z:=I.n (by decide);refine av f.pins.length (λk x H2=>x.2=(k:Int)/\aF EI jm H2 x.1 ((f.pins.take k).filter λx=>decide (x≠c))/\Ext H H2/\∀b,ai x.1 b->H.size<=b) ⟨rfl,aF.nil _ _ _,.refl _ _,λb q=>absurd q gY⟩ ?_;rintro k ⟨C,j⟩ H2 next hk ⟨hj,T,N,f2⟩ m
   simp only at hj T f2 m ⊢;subst hj;have g2:=g.ext N;have z2:=N.size;refine g2.aj.head.ld (c:=aq) (i:=2) (x:=ll) rfl ?_;refine g2.aj.ag.ld P (j:=5) (c:=aq) (y:=gg) rfl ?_;refine ah (λhc=>?_) (λhc=>?_)
   ·have z:k<f.pins.length:=by rw[Z] at hc;simpa using hc
    refine g2.aj.head.ld (c:=aq) (i:=2) (x:=ll) rfl ?_;refine g2.aj.ag.ld P (j:=5) (c:=aq) (y:=gg) rfl ?_;refine xN (I.ext N) z ?_;have J:(f.pins.take (k+1)).filter (λx=>decide (x≠c))=(f.pins.take k).filter (λx=>decide (x≠c))++if f.pins[k]≠c then [f.pins[k]] else []:=by
     rw[QO z,Sh];congr 1;by_cases q:f.pins[k]=c<;>simp[q]
    have O:QI.wrap ((k:Int)+1)=((k+1:Nat):Int):=aD k (by omega);refine ah (λhq=>?_) (λhq=>?_)
    ·have R:f.pins[k]≠c:=by simpa using hq
     rw[if_pos R] at J;refine g2.aj.head.ld (c:=aq) (i:=2) (x:=ll) rfl ?_;refine g2.aj.ag.ld P (j:=5) (c:=aq) (y:=gg) rfl ?_;refine xN (I.ext N) z ?_;have a1:=T2 (λx=>decide (x≠c)) (f.pins.take k);simp only[Ro] at a1;refine aF.push (E:=EI) Hr (x:=f.pins[k]) T rfl (by omega) (by omega) λl3 H3 o3 g3 _=>?_;have z3:=g3.1.size;refine m z _ _ ⟨O,by rw[J];exact o3,⟨by omega,λb a _=>(g3.1.same b (by omega) λhh=>by have:=f2 b hh;omega).trans (N.same b a id)⟩,λb a=>?_⟩;rcases g3.2 b a with q|q
     ·exact f2 b q
     ·omega
    ·have R:¬f.pins[k]≠c:=by simpa using hq
     rw[if_neg R,Tl] at J;exact m z _ _ ⟨O,by rw[J];exact T,N,f2⟩
   ·have a6:k=f.pins.length:=by rw[Z] at hc;simp at hc;omega
    rw[a6,QS (QN _)] at T;refine g2.aj.head.ld (c:=aq) (i:=2) (x:=ll) rfl ?_;refine kZ g2.aj.ag.arr P (j:=5) (z':=({f with pins:=f.pins.filter λx=>decide (x≠c)},C)) (v:=C.v) (by decide) rfl rfl λH3 o3 m3 s3=>?_;have d3:ao H3 p tw (dR dp ll s):=g2.aj.head.mod m3 λq=>off (.inl q);refine d3.ld (c:=ab .i64) (i:=4) (x:=s.tick) rfl ?_;refine d3.st (i:=4) (by decide:4<7) (by rfl) λH4 d4 m4 s4=>?_;obtain⟨t,o⟩:∃t:Pl,t={s with fs:=s.fs.modify i (Fr.bk c (fT (s.tick+1))),tick:=fT (s.tick+1)}:=⟨_,rfl⟩;have S:ao H4 p tw (dR dp ll t):=by rw[o];exact d4
    refine S.ld (c:=aq) (i:=2) (x:=ll) rfl ?_;refine S.ld (c:=ab .i64) (i:=4) (x:=fT (s.tick+1)) (by rw[o];rfl) ?_;have o4:aF nG vh H4 ll (zs.set i ({f with pins:=f.pins.filter λx=>decide (x≠c)},C)):=o3.ar λb a hl=>m4.same b hl λe=>off (e▸.inl a);have a7:(zs.set i (({f with pins:=f.pins.filter λx=>decide (x≠c)},C):RZ))[i]?=some ({f with pins:=f.pins.filter λx=>decide (x≠c)},C):=by simp[Y]
    refine kZ o4 a7 (j:=6) (z':=(Fr.bk c (fT (s.tick+1)) f,C)) (v:=.int .i64 (fT (s.tick+1))) (by decide) rfl rfl λH5 o5 m5 s5=>?_;rw[Xe] at o5;have a8:∀b,ai C b->b≠p:=λb a e=>by have:=f2 b a;have:=aI g.aj.head;omega
    have af:∀b,ai C b->¬ai ll b:=T.apart g2.aj.ag.arr (by decide);obtain⟨t1,t2⟩:=g.aj.ag.set (H':=H5) P (z':=(Fr.bk c (fT (s.tick+1)) f,C)) o5
     (T.ar λb a hl=>(m5.same b (by omega) (af b a)).trans ((m4.same b (by omega) (a8 b a)).trans (m3.same b hl (af b a))))
     (λu hu b a _ hl=>(m5.same b (by omega) (g.aj.ag.gX hu b a)).trans ((m4.same b (by omega) λe=>off (e▸.inr ⟨u,hu,a⟩)).trans ((m3.same b (by omega) (g.aj.ag.gX hu b a)).trans (N.same b hl id))))
     (λb a=>.inr (f2 b a))
    have bb:bH ll (zs.set i (Fr.bk c (fT (s.tick+1)) f,C)) H5 p dp t:=by
     refine⟨S.mod m5 λq=>off (.inl q),t1,?_,by rw[o];exact V⟩;rw[o];show s.fs.modify i (Fr.bk c (fT (s.tick+1)))=_;rw[bm hf,g.aj.fs];simp[Ex,R9]
    obtain⟨q1,q2⟩:=g.js bb (by rw[o]) ((((Ext.mod N).trans (m3.mono λb _ q=>.inr (.inl q))).trans (m4.mono λb _ q=>.inl q)).trans (m5.mono λb _ q=>.inr (.inl q))) t2;obtain⟨F',r1,r2⟩:=q1.out hF q2;rw[o] at r1;exact hK F' H5 r1 r2
theorem zU {K:Int->aa->Prop}(h:ax F H p dp s)(N:K (s.pinned:Int) H):Ls.sp (aK p) H K:=by
 obtain⟨ll,zs,D,g,R⟩:=h;refine Ls.of ?_;unfold Ls.vc;simp only[aw];have hn:=g.aj.n;have hlen:=g.aj.wf.len;have C:=g.aj.wf.most;refine av s.fs.length (λk x H1=>x.1=(((s.fs.take k).filter λf=>!f.pins.isEmpty).length:Int)/\x.2=(k:Int)/\H1=H) ⟨rfl,rfl,rfl⟩ ?_;rintro k ⟨c,i⟩ H1 next hk ⟨u,hi,rfl⟩ e
 simp only at u hi e ⊢;subst u;subst hi;refine g.aj.head.ld (c:=aq) (i:=2) (x:=ll) rfl ?_;refine ah (λv=>?_) (λv=>?_)
 ·have m:k<s.fs.length:=by rw[hn] at v;simpa using v
  obtain⟨O,J⟩:=g.aj.at (QK m);have q:=(g.aj.ag.ent _ (QL J)).n (by decide);simp only at q;have E:=T2 (λf:Fr=>!f.pins.isEmpty) (s.fs.take k);simp only[Ro] at E;have o:((s.fs.take (k+1)).filter λf=>!f.pins.isEmpty).length=((s.fs.take k).filter λf=>!f.pins.isEmpty).length+if s.fs[k].pins.isEmpty then 0 else 1:=by
   rw[QO m,Sh,Ri];congr 1;cases z:s.fs[k].pins.isEmpty<;>simp[z]
  refine g.aj.head.ld (c:=aq) (i:=2) (x:=ll) rfl ?_;refine g.aj.ag.ld J (j:=5) (c:=aq) (y:=O) rfl ?_;refine ah (λz=>?_) (λz=>?_)
  ·have G:s.fs[k].pins.isEmpty=false:=by
    cases P:s.fs[k].pins with
    |nil=>rw[P] at q;simp at q z;omega
    |cons a r=>rfl
   rw[G] at o;refine e m _ _ ⟨?_,aD k (by omega),rfl⟩;rw[o,wrap64 (by omega) (by omega)];simp
  ·have he:s.fs[k].pins.isEmpty=true:=by
    rw[List.isEmpty_iff];exact Ra (by simp at z;omega)
   rw[he] at o;exact e m _ _ ⟨by rw[o];simp,aD k (by omega),rfl⟩
 ·have I:k=s.fs.length:=by rw[hn] at v;simp at v;omega
  rw[I,QS (QN _)];exact N
end
