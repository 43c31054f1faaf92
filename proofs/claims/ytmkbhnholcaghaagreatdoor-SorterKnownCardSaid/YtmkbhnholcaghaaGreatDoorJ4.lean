/-
 The pool: made; a page looked up, read, pinned; a page more.
-/
import Derived.Lib.SliceRun
import Derived.Test.YtmkbhnholcaghaaGreatDoorJ3
open Array renaming getElem?_eq_some_iff->QR,replicate->Tm,getElem?_push->TM,getElem?_append_left->TS,getElem?_modify->TX
open BitVec renaming ofInt->SX,toNat_ofNat->Tr,ofInt_natCast->U3
open Bool renaming and_eq_true->QY,or_eq_false_iff->Sp,eq_iff_iff->Wu
open ByteArray renaming mk->Q4,empty->Tn
open Go.Addr renaming add->Ru
open Go.Builtin renaming append_->QM,clear_->VY
open Go.Instr renaming storeAt->Q3,lookup->Sd
open Go.IntKind renaming i64->QI,u64->Rj,u8->RE,wrap_u64->YA
open Go.Proofs.AnyF renaming slices_SortFunc_none->UP
open Go.Proofs.AnyM renaming slices_Sort_int_none->YU,slices_Sort_int->Zs
open Go.Proofs.Tryz renaming prog->QH,zeroValue170->ZO,func188->abk
open Go.Sort renaming putCells->Tu,putRow->Ur,grow->UI,ahead->UU,mapBlock->Vk
open Go.Value renaming int->QT,oneCell'->XK
open Go.Value.int renaming injEq->VI
open Go.Value.slice renaming injEq->Q2
open Go.World renaming frozen?->XW,cell?->Yq
open Iff renaming rfl->V4
open Int renaming toNat_natCast->QP,tdiv->Rt,tmod->RP,eq_ofNat_of_zero_le->Ts,le_refl->TG,tdiv_eq_ediv_of_nonneg->TT,lt_or_eq_of_le->Wy,emod_nonneg->Xc,lt_trichotomy->XM,tmod_eq_emod->XY,le_of_lt->YO,lt_of_le_of_lt->YP,tdiv_le_self->Zd,tdiv_nonneg->Zr,ofNat_tdiv->ZI
open List renaming getElem?_eq_some_iff->QJ,getElem?_eq_getElem->QK,mem_of_getElem?->QL,take_succ_eq_append_getElem->QO,mem_append->QQ,take_of_length_le->QS,mem_iff_getElem?->QU,getElem?_map->QV,mem_map->QW,mem_cons->QX,mem_singleton->Q1,replicate->Q6,map_cons->Q7,mem_cons_of_mem->Q8,mem_cons_self->Q9,eq_nil_of_length_eq_zero->Ra,getElem_mem->Re,getElem?_append_left->Rf,length_map->Rg,length_append->Ri,map_append->Rm,length_take->Ro,mem_filter->Rp,length_cons->Rr,drop_eq_getElem_cons->Rw,getElem?_set->Rx,append_assoc->RD,getElem?_take->RF,mergeSort_perm->RG,range->RI,drop_of_length_le->RL,length_drop->RM,sum_cons->RS,mem_of_mem_take->RU,getElem?_cons_succ->RV,getD->RY,pairwise_cons->R0,map_map->R8,map_set->R9,getElem_of_mem->Sb,mem_of_mem_eraseIdx->Se,filter_append->Sh,getElem?_drop->Si,mem_flatMap->Sm,filter_eq_self->Su,pairwise_mergeSort->Sw,filter_congr->Sx,mem_or_eq_of_mem_set->SH,perm_ext_iff_of_nodup->SU,filter_cons->S0,any_eq_true->S9,isEmpty_iff->Tb,pairwise_map->Tg,getElem?_eq_none->Th,take_append_drop->Tj,foldl_cons->Tx,getElem?_toArray->TB,map_nil->TD,getElem?_append->TJ,map_congr_left->TO,drop_drop->TZ,take_take->T0,length_filter_le->T2,foldl_append->Uc,filter_sublist->Uf,getElem_map->Vl,findIdx?_cons->VJ,any_eq_false->VZ,getElem?_range->Wp,find?_cons->Wt,Nodup->Wz,eraseIdx_cons_succ->WA,range_succ->WU,filter_map->Xa,map_take->XE,getElem_drop->XL,drop_eq_nil_iff->Yt,mem_mergeSort->YM,getElem_range->YN,ext_getElem->Ze,foldl_nil->ZH
open List.Nodup renaming length_le_of_subset->TA
open List.Pairwise renaming nil->UY,imp_of_mem->XX
open List.Perm renaming eq_of_pairwise->TE,trans->W9,of_eq->Yc
open Nat renaming le_refl->QN,le_trans->QZ,zero_le->Q5,mul_le_mul_right->Rq,mul_one->Rz,lt_or_ge->RA,le_succ->RB,succ_mul->RQ,zero_add->R3,lt_of_lt_of_le->Sk,min_eq_left->TL,succ_le_of_lt->Ub,mod_eq_of_lt->Uh,add_zero->Ux,div_le_self->VK,sub_zero->Wb,reduceAdd->Wl,eq_zero_or_pos->Ww,le_mul_of_pos_right->WB,le_of_eq->W7,mul_comm->Xb,div_mul_le_self->Xi,div_add_mod->Yd,lt_irrefl->Yv
open Ne renaming symm->Sg
open Option renaming getD_some->Ug,map_some->UJ
open Option.some renaming inj->Rc,injEq->RH
open Prod renaming fst->Xo,snd->XV
open Prod.mk renaming injEq->RJ
open UInt8 renaming ofNat->Rv,toNat_inj->Tp
open Go renaming Value->gp,Addr->hY,TypeId->ic,MapEntry->nW,Program->hQ
namespace Go.Proofs.YtmkbhnholcaghaaGreatDoor
section
open Go.MapKept
theorem bQ.ext {x:PG}{D:Nat->Prop}{H H':aa}{p dp:Nat}{s:Pl}(h:bQ x D H p dp s)(e:Ext H H'):bQ x D H' p dp s:=
 ⟨h.aj.ar λb _ hl=>e.same b hl id,h.cD.ar λb _ hl=>e.same b hl id,h.apart,h.fi⟩
theorem Step.ext {F:Nat->Prop}{H H':aa}(e:Ext H H'):Step F F H H':=⟨Ext.mod e,λ_ q=>.inl q⟩
theorem Step.behind {F G:Nat->Prop}{A B C:aa}(h:Step F G A B)(e:Ext B C):Step F G A C:=h.trans (Step.ext e)
theorem lr {D:Nat->Prop}{H:aa}{dp:Nat}{d:Dk}{m:Nat}{K:(Option hY×Int)->aa->Prop}(l:Gl H)(hd:bw D H dp d)(n:¬D bt)(o:8<=m)(hm:m<=4096)
  (r:∀F p H',aA F H' p dp (me d m)->Ext H H'->(∀b,F b->D b\/H.size<=b)->K (aK p,0) H'):Fp.sp (aK dp) (m:Int) H K:=by
 refine Fp.of ?_;unfold Fp.vc;refine aE rfl (aE (by simp;omega) (aE (by simp;omega) ?_));refine tB (d:=.int .i64) λH1 s1 m1 s=>?_;refine tB (d:=.int .i64) λg s2 m2 j=>?_;refine au λh y t i=>?_;have hl:=hd.lt;have u:=l.lt;have c:Ext H h:=(s.trans j).trans i;have f:bG ⟨H.size,#[],0,H1.size,#[],0,[]⟩ h g.size dp (me d m):=by
  refine⟨t,⟨?_,?_,by simp only;omega,rfl,?_,?_,by simp,by simp⟩,rfl,GQ o hm⟩
  ·exact⟨(j.trans i).at m1.obj id,stamped_empty 0,by simp⟩
  ·exact m2.ar (i.same _ m2.lt id)
  ·intro k v;constructor
   ·rintro⟨e,he,_⟩;simp at he
   ·intro q;simp[qx] at q
  ·intro k v;constructor
   ·rintro⟨e,he,_⟩;simp at he
   ·intro q;simp[xH] at q
 have a:∀b,PG.all ⟨H.size,#[],0,H1.size,#[],0,[]⟩ g.size b->H.size<=b:=by
  rintro b (e|e|e|⟨z,w,_⟩)
  ·omega
  ·simp only at e;omega
  ·simp only at e;omega
  ·simp at w
 refine r _ g.size h ⟨_,D,⟨f,hd.ar λb _ hl=>c.same b hl id,λb x f=>?_,n,λf=>?_⟩,λb=>V4⟩ c ?_
 ·have:=a b f;have:=hl b x;omega
 ·have:=a _ f;omega
 ·rintro b (q|q)
  ·exact .inl q
  ·exact .inr (a b q)
theorem Ih {x:PG}{H:aa}{p dp:Nat}{s:Pl}{n:ByteArray}{k:Int}{K:(Option hY×Bool)->Prop}(h:bG x H p dp s)(l:n.size<=9223372036854775807)(m:-9223372036854775808<=k)(h1:k<=9223372036854775807)
  (o:∀i f g,s.find n k=some i->x.zs[i]?=some (f,g)->f.name=n->(f.page:Int)=k->K (aK g.p,true)) (q:s.find n k=none->K (none,false)):
  Fs (aW [aB,aC]) QH (Sd zv (.map (some x.mf)) (.agg #[.string n,.int .i64 k]) true) H K:=by
 obtain⟨A,inf,hu,hi,r⟩:=nL;refine zf (k:=jI n k) hu xK hi r h.ag.fmap (qV l m h1) ?_ ?_
 ·intro v t;obtain⟨z,c,e⟩:=QW.1 ((h.ag.entF _ _).1 t);simp only[RJ] at e;obtain⟨a,b⟩:=mP e.1;obtain⟨i,hi⟩:=QU.1 c;have d:s.fs[i]?=some z.1:=by rw[h.fs];simp[PG.fs,hi]
  refine⟨(aK z.2.p,true),by rw[<-e.2];rfl,o i z.1 z.2 ?_ hi a b⟩;rw[<-a,<-b];exact Pl.find_eq h.wf d
 ·intro j;refine⟨(none,false),rfl,q ?_⟩;cases u:s.find n k with
  |none=>rfl
  |some i=>
    obtain⟨f,w,a,b⟩:=Pl.nK u;obtain⟨g,y,_⟩:=h.at w;refine absurd ((h.ag.entF (jI n k) (dt g.p)).2 (QW.2 ⟨(f,g),QL y,?_⟩)) (j _);simp only[a,b]
theorem Gz {x:PG}{H:aa}{p dp:Nat}{s:Pl}{k:Int}{K:(Option hY×Bool)->Prop}(h:bG x H p dp s)
  (j:∀i f g,s.held k=some i->x.zs[i]?=some (f,g)->k∈f.pins->K (aK g.p,true)) (l:s.held k=none->K (none,false)):
  Fs (aW [aB,aC]) QH (Sd Oc (.map (some x.mh)) (.int .i64 k) true) H K:=by
 obtain⟨u,inf,hu,hd,hi,m⟩:=sW;refine uh hu hd hi m h.ag.hmap (k:=.int .i64 k) (show QI=QI from rfl) ?_ ?_
 ·intro v n;obtain⟨z,a,hk⟩:=Sm.1 ((h.ag.entH _ _).1 n);obtain⟨q,b,e⟩:=QW.1 hk;simp only[RJ,VI,true_and] at e;obtain⟨i,hi⟩:=QU.1 a;have c:s.fs[i]?=some z.1:=by rw[h.fs];simp[PG.fs,hi]
  rw[e.1] at b;exact⟨(aK z.2.p,true),by rw[<-e.2];rfl,j i z.1 z.2 (Pl.JQ h.wf c b) hi b⟩
 ·intro d;refine⟨(none,false),rfl,l ?_⟩;cases o:s.held k with
  |none=>rfl
  |some i=>
    obtain⟨f,r,hm⟩:=Pl.iQ o;obtain⟨g,t,_⟩:=h.at r;exact absurd ((h.ag.entH (.int .i64 k) (dt g.p)).2 (Sm.2 ⟨(f,g),QL t,QW.2 ⟨k,hm,rfl⟩⟩)) (d _)
theorem Dk.kG {s:Dk}(h:s.WF)(n:ByteArray):(s.len n).1<=1048576:=by
 have h1:=h.used;have c:=h.most;have d:=h.quota;unfold Dk.len;split
 ·rename_i i e hi;have:(s.file i).az.length<=s.used:=by
   unfold Dk.open at hi;split at hi
   ·cases hi
   ·split at hi
    ·rename_i j b;cases hi;obtain⟨f,a,_⟩:=Dk.cw b;rw[Dk.dI a];exact Dk.fm a
    ·cases hi
  show (s.file i).az.length<=_;omega
 ·exact Q5 _
theorem Dk.zY (s:Dk)(n:ByteArray)(k:Int):(s.read n k).1.length<=512/\((s.read n k).2=0->(s.read n k).1.length=512):=by
 unfold Dk.read Dk.open;split
 ·rename_i i e hi;split
  ·exact⟨by simp,λq=>by cases q⟩
  ·split
   ·rename_i pg _;exact⟨by rw[pg.2];exact QN _,λ_=>pg.2⟩
   ·exact⟨by simp,λq=>by cases q⟩
 ·rename_i e hi;refine⟨by simp,λq=>?_⟩;split at hi
  ·simp at hi;subst hi;cases q
  ·split at hi
   ·cases hi
   ·simp at hi;subst hi;cases q
theorem Pl.wE (s:Pl):∀f∈s.room.1.fs,∃f'∈s.fs,f'.key=f.key:=by
 have b:∀i,∀f∈(s.put i).1.fs,∃f'∈s.fs,f'.key=f.key:=by
  intro i f a;unfold Pl.put at a;split at a
  ·have a:f∈s.fs.modify i Fr.clean:=a;obtain⟨j,c⟩:=QU.1 a;rw[List.getElem?_modify] at c;cases d:s.fs[j]? with
   |none=>rw[d] at c;cases c
   |some y=>
     rw[d] at c;have e:(if i=j then y.clean else y)=f:=Rc c;refine⟨y,QL d,?_⟩;rw[<-e];split<;>rfl
  ·exact⟨f,a,rfl⟩
 intro f a;unfold Pl.room at a;split at a
 ·exact⟨f,a,rfl⟩
 ·split at a
  ·exact⟨f,a,rfl⟩
  ·rename_i i _;split at a
   ·split at a
    ·exact b i f (Se a)
    ·exact b i f a
   ·exact⟨f,Se a,rfl⟩
theorem Pl.xf {s:Pl}{n:ByteArray}{k:Int}(h:∀f∈s.fs,f.name=n->(f.page:Int)≠k):s.find n k=none:=by
 unfold Pl.find;rw[List.findIdx?_eq_none_iff];intro f a;cases b:f.name.toList==n.toList with
 |false=>rfl
 |true=>
   have:=h f a (ig (by simpa using b));show (true&&decide ((f.page:Int)=k))=false;rw[Bool.true_and];exact decide_eq_false this
theorem Pl.nX {s:Pl}{n:ByteArray}{k:Int}(h:s.find n k=none):s.room.1.find n k=none:=by
 refine Pl.xf λf b c d=>?_;obtain⟨f',a,hk⟩:=s.wE f b;have h1:f'.name=f.name:=congrArg Xo hk;have e:f'.page=f.page:=congrArg XV hk;exact Pl.qE h f' a (h1.trans c) (by rw[e];exact d)
theorem Pl.E0 {s:Pl}(hd:s.d.WF){n:ByteArray}{k:Int}{f:Fr}(h:(s.load n k).2.1=some f):
  (s.load n k).1=s.room.1/\(s.load n k).2.2=0/\s.room.2=0/\f.name=n/\(f.page:Int)=k/\f.b.length<=504/\f.pins=[]/\f.left=0/\f.page<1048577:=by
 have hl:=Dk.kG hd n;unfold Pl.load at h ⊢;by_cases h1:(s.d.len n).2≠0
 ·rw[if_pos h1] at h;cases h
 rw[if_neg h1] at h ⊢;by_cases b:k<0\/k>=((s.d.len n).1:Int)
 ·rw[if_pos b] at h;cases h
 rw[if_neg b] at h ⊢;by_cases c:s.room.2≠0
 ·rw[if_pos c] at h;cases h
 rw[if_neg c] at h ⊢;by_cases e:(s.room.1.d.read n k).2≠0
 ·rw[if_pos e] at h;cases h
 rw[if_neg e] at h ⊢;cases a:ja (s.room.1.d.read n k).1 with
 |none=>rw[a] at h;cases h
 |some g=>
   rw[a] at h;simp only[RH] at h;subst h;have hlen:g.2.length<=504:=by
    unfold ja at a;split at a
    ·rename_i q;cases a;simp;omega
    ·cases a
   exact⟨rfl,rfl,by omega,rfl,by simp only;omega,hlen,rfl,rfl,by simp only;omega⟩
theorem Pl.DX {s:Pl}{n:ByteArray}{k:Int}(h:(s.load n k).2.1=none):(s.load n k).2.2≠0:=by
 unfold Pl.load at h ⊢;split
 ·rename_i h1;exact h1
 ·rename_i h1;rw[if_neg h1] at h;split
  ·show (12:Int)≠0;decide
  ·rename_i c;rw[if_neg c] at h;split
   ·rename_i a;exact a
   ·rename_i a;rw[if_neg a] at h;split
    ·rename_i b;exact b
    ·rename_i b;rw[if_neg b] at h;split
     ·show (20:Int)≠0;decide
     ·rename_i d hk;rw[hk] at h;cases h
theorem qb {x:PG}{D:Nat->Prop}{H:aa}{p dp:Nat}{s:Pl}{n:ByteArray}{k:Int}{K:(Option hY×Int)->aa->Prop}(hg:Gl H)(h:bQ x D H p dp s)(y:s.d.aH<68719476736)
  (j:(s.load n k).2.1=none->∀q x' N H',bQ x' N H' p dp (s.load n k).1->Step (λb=>D b\/x.all p b) (λb=>N b\/x'.all p b) H H'->K (q,(s.load n k).2.2) H')
  (z:∀f,(s.load n k).2.1=some f->∀g x' N H',bQ x' N H' p dp s.room.1->Step (λb=>D b\/x.all p b) (λb=>N b\/x'.all p b) H H'->GF x' N H' p g f->(∀b,g.fp b->H.size<=b)->K (aK g.p,0) H'):
  Lt.sp (aK p) n k H K:=by
 refine Lt.of ?_;unfold Lt.vc;simp only[aw];refine au λH1 s1 Z O=>?_;have h1:=h.ext O;have R:Gl H1:=hg.mod O id;refine h1.aj.head.ld (c:=aB) (i:=0) (x:=aK dp) rfl ?_;refine Z.ld (c:=aN) (i:=0) (x:=n) rfl ?_;refine uU h1.cD ?_;unfold Pl.load at j z;refine ah (λhz=>?_) (λhz=>?_)
 ·have A:(s.d.len n).2≠0:=by simpa using hz
  rw[if_pos A] at j;exact j rfl _ x D H1 h1 (.ext O)
 have A:¬(s.d.len n).2≠0:=by simpa using hz
 rw[if_neg A] at j z;refine Z.ld (c:=ab .i64) (i:=1) (x:=k) rfl ?_;refine ah (λhk=>?_) (λhk=>?_)
 ·have B:k<0:=by simpa using hk
  rw[if_pos (.inl B)] at j;exact j rfl _ x D H1 h1 (.ext O)
 refine Z.ld (c:=ab .i64) (i:=1) (x:=k) rfl ?_;refine ah (λC=>?_) (λC=>?_)
 ·have B:k>=((s.d.len n).1:Int):=by simpa using C
  rw[if_pos (.inr B)] at j;exact j rfl _ x D H1 h1 (.ext O)
 have a1:0<=k:=by simp at hk;omega
 have af:¬(k<0\/k>=((s.d.len n).1:Int)):=by simp at hk C;omega
 rw[if_neg af] at j z;refine CZ R h1 y λP Q S E S2=>?_;have v:=(Step.ext (F:=λb=>D b\/x.all p b) O).trans S2;have T:Gl S:=h1.gl R S2.mod;have G:¬(D H.size\/x.all p H.size):=λq=>by have:=h.lt _ q;omega
 have r2:ao S H.size yn #[.string n,.int .i64 k]:=S2.mod.at Z G;refine ah (λI=>?_) (λI=>?_)
 ·have o:s.room.2≠0:=by simpa using I
  rw[if_pos o] at j;exact j rfl _ P Q S E v
 have o:¬s.room.2≠0:=by simpa using I
 rw[if_neg o] at j z;refine E.aj.head.ld (c:=aB) (i:=0) (x:=aK dp) rfl ?_;refine r2.ld (c:=aN) (i:=0) (x:=n) rfl ?_;refine r2.ld (c:=ab .i64) (i:=1) (x:=k) rfl ?_;refine CH E.cD λr t o3 U f3=>?_;have al:=s.room.1.d.zY n k;refine ah (λJ=>?_) (λJ=>?_)
 ·have u:(s.room.1.d.read n k).2≠0:=by simpa using J
  rw[if_pos u] at j;exact j rfl _ P Q t (E.ext U) (v.behind U)
 have u:¬(s.room.1.d.read n k).2≠0:=by simpa using J
 rw[if_neg u] at j z;have r3:=r2.ext U;refine ao.cN (x:=(n,k)) r3 rfl rfl ?_;refine au λL s4 r4 e4=>?_;have M:Ext S L:=U.trans e4;have an:Gl L:=T.mod M id;have a6:=v.mod.size;have z24:=M.size;have z3:=U.size;have o4:aF EB fU L r (s.room.1.d.read n k).1:=o3.ar λb _ hl=>e4.same b hl id;have V:(s.room.1.d.read n k).1.length=512:=al.2 (by omega);have fin:∀(m:aa) (kd:Int) (sl:Sl) (er:Int),Ext L m->(∀l,ao l t.size Mz #[.string n,.int .i64 k,.int .u8 kd,sl.v,.bool false,.int .i64 0,.int .i64 0]->Mod (λb=>b=t.size) m l->l.size=m.size->K (some ⟨t.size,0,none⟩,er) l)->
   st m (Ru ⟨t.size,0,none⟩ 2) (.int .u8 kd) λH7=>st H7 (Ru ⟨t.size,0,none⟩ 3) sl.v λH8=>K (some ⟨t.size,0,none⟩,er) H8:=by
  intro m kd sl er a hK;refine ao.st (r4.ext a) (i:=2) (by decide:2<7) (by rfl) λH7 r7 m7 z7=>?_;refine ao.st r7 (i:=3) (by decide:3<7) (by rfl) λH8 r8 m8 z8=>?_;exact hK H8 r8 (m7.trans m8) (by omega)
 have stays:∀(m l:aa),Ext L m->Mod (λb=>b=t.size) m l->bQ P Q l p dp s.room.1/\Step (λb=>D b\/x.all p b) (λb=>Q b\/P.all p b) H l:=by
  intro m l a W;have X:Ext S l:=⟨by have:=a.size;have:=W.size;omega,λb w _=>(W.same b (by have:=a.size;omega) (by omega)).trans ((M.trans a).same b w id)⟩;exact⟨E.ext X,v.behind X⟩
 refine KG an (cg o4) (by omega) o4.cap (λq=>absurd V q) (λ_ ho=>?_) (λkd b s' m _ ho a7 o5 a f5=>?_)
 ·rw[ho] at j;refine fin L 0 (Sl.mk none 0 0) 20 (.refl _ _) λl r6 m6 z6=>?_;obtain⟨q1,q2⟩:=stays L l (.refl _ _) m6;exact j rfl _ P Q l q1 q2
 ·rw[ho] at z;refine fin m _ s' 0 a λl r6 m6 z6=>?_;obtain⟨q1,q2⟩:=stays m l a m6;have Y:∀b,uC.fp ⟨t.size,s'⟩ b->t.size<=b:=by
   rintro b (e|w)
   ·exact W7 e.symm
   ·have:=f5 b w;omega
  have z45:=a.size;refine z _ rfl ⟨t.size,s'⟩ P Q l q1 q2 ⟨⟨?_,o5.ar λb w hl=>m6.same b hl ?_⟩,λb w=>?_⟩ (λb w=>by have:=Y b w;omega)
  ·have ek:((k.toNat:Nat):Int)=k:=by omega
   unfold OL;simp only[ek];exact r6
  ·have:=f5 b w;omega
  ·have h3:=Y b w;refine⟨λq=>?_,λq=>?_,λq=>?_⟩
   ·have:=E.lt b (.inl q);omega
   ·have:=E.lt b (.inr q);omega
   ·have:=T.lt;omega
end
section
open Go.MapKept
theorem aA.ext {F:Nat->Prop}{H H':aa}{p dp:Nat}{s:Pl}(h:aA F H p dp s)(e:Ext H H'):aA F H' p dp s:=h.ar λb _ hl=>e.same b hl id
theorem Step.ahead {F G:Nat->Prop}{A B C:aa}(e:Ext A B)(h:Step F G B C):Step F G A C:=(Step.ext e).trans h
theorem Jl:(zc QH yn).size=2:=by kernel_rfl
theorem Gd {F:Nat->Prop}{H:aa}{p dp:Nat}{s:Pl}{n:ByteArray}{k:Int}{K:(Int×Int)->aa->Prop}(hg:Gl H)(h:aA F H p dp s)(Z:n.size<=9223372036854775807)(h0:-9223372036854775808<=k)(h1:k<=9223372036854775807)
  (o:s.d.aH<68719476736) (r:s.next<9223372036854775807) (a:∀F' H',aA F' H' p dp (s.bF n k).1->Step F F' H H'->K ((s.bF n k).2.1,(s.bF n k).2.2) H'):IU.sp (aK p) n k H K:=by
 have S:=h;obtain⟨x,D,hd,T⟩:=h;refine IU.of ?_;unfold IU.vc;simp only[aw];refine jf hd.aj ?_;unfold Pl.bF at a;refine ah (λhw=>?_) (λhw=>?_)
 ·have u:s.wrong≠0:=by simpa using hw
  rw[if_pos u] at a;exact a F H S (.refl _ _)
 have u:¬s.wrong≠0:=by simpa using hw
 rw[if_neg u] at a;refine au λH1 s1 r1 e1=>?_;have U:=Jl;refine ao.iE r1 (cs:=#[.string n,.int .i64 k]) (by kernel_rfl) U (by intro v hv;simp at hv;rcases hv with rfl|rfl<;>rfl) λC r2 m2 z2=>?_;have E:Ext H C:=⟨by have:=e1.size;have:=m2.size;omega,λb O _=>(m2.same b (by omega) (by omega)).trans (e1.same b O id)⟩;have d:=hd.ext E;have l:Gl C:=hg.mod E id;refine d.aj.head.ld (c:=cd) (i:=2) (x:=some x.mf) rfl ?_;refine ao.cN (x:=(n,k)) r2 rfl rfl ?_;refine Ih d.aj Z h0 h1 (λi f g hi hz _ _=>?_) (λhi=>?_)
 ·rw[hi] at a;have G:s.fs[i]?=some f:=by rw[hd.aj.fs];simp[PG.fs,hz]
  have af:f.pins.length<=s.pins:=l8 (λf:Fr=>f.pins.length) s.fs i f G;have ht:=hd.aj.wf.tick;refine aR rfl ?_;refine Ha l d hz r (hd.aj.wf.iG G r) (by omega) λx' I w j=>?_;obtain⟨F',J,L⟩:=w.out (x:=x) (D:=D) (F:=F) (H:=C) T j;exact a F' I J (L.ahead E)
 ·rw[hi] at a;refine aE rfl ?_;refine ao.cN (x:=(n,k)) r2 rfl rfl ?_;refine qb l d o (λm q x' D' I w j=>?_) (λf P g x' D' I w j hN M=>?_)
  ·have y:=Pl.DX m;obtain⟨z,A⟩:∃z,s.load n k=z:=⟨_,rfl⟩;obtain⟨t,fo,e⟩:=z;rw[A] at m y w a ⊢;simp only at m y w a ⊢;subst m;simp only at a;refine aR (by simpa using y) ?_;have B:Gl I:=d.gl l j.mod;refine w9 B w λQ V R=>?_;obtain⟨F',J,L⟩:=V.out (x:=x) (D:=D) (F:=F) (H:=C) T (j.trans R);exact a F' Q J (L.ahead E)
  ·obtain⟨W,a2,a3,a4,a5,a6,a7,a8,a9⟩:=Pl.E0 hd.cD.wf P;obtain⟨z,A⟩:∃z,s.load n k=z:=⟨_,rfl⟩;obtain⟨t,fo,e⟩:=z;rw[A] at P W a2 a;simp only at P W a2 a;subst P;simp only at a;rw[W] at a;refine aE rfl ?_;have B:Gl I:=d.gl l j.mod;have N:=s.cI;have X:=hd.aj.wf.yh;refine De B w hN (by rw[N.1];exact X.2 a3) (by rw[N.2.1];exact r) (by rw[a4,a5];exact Pl.nX hi) a6 a9 (by rw[a4];exact Z) a7 a8 λx4 Q V R=>?_;have Y:Step (λb=>D b\/x.all p b) (λb=>D' b\/x4.all p b) C Q:=by
    refine⟨j.mod.trans' R.mod λb O q=>?_,λb O=>?_⟩
    ·rcases q with q|q
     ·exact(j.own b q).resolve_right (by omega)
     ·have:=M b q;omega
    ·rcases R.own b O with q|q
     ·rcases q with q|q
      ·exact j.own b q
      ·exact .inr (M b q)
     ·exact .inr (QZ j.mod.size q)
   obtain⟨F',J,L⟩:=V.out (x:=x) (D:=D) (F:=F) (H:=C) T Y;exact a F' Q J (L.ahead E)
theorem Gi {F:Nat->Prop}{H:aa}{p dp:Nat}{s:Pl}{n:ByteArray}{K:(Int×Int×Int)->aa->Prop}(V:Gl H)(h:aA F H p dp s)(hn:n.size<=9223372036854775807)
  (X:s.d.aH<68719476735) (Y:s.next<9223372036854775807) (L:s.Fit)
  (a:∀F' H',aA F' H' p dp (s.fresh n).1->Step F F' H H'->K ((s.fresh n).2.1,(s.fresh n).2.2.1,(s.fresh n).2.2.2) H'):LX.sp (aK p) n H K:=by
 have Z:=h;obtain⟨x,D,hd,hF⟩:=h;refine LX.of ?_;unfold LX.vc;simp only[aw];refine jf hd.aj ?_;unfold Pl.fresh at a;refine ah (λhw=>?_) (λhw=>?_)
 ·have A:s.wrong≠0:=by simpa using hw
  rw[if_pos A] at a;exact a F H Z (.refl _ _)
 have A:¬s.wrong≠0:=by simpa using hw
 rw[if_neg A] at a;refine hd.aj.head.ld (c:=aB) (i:=0) (x:=aK dp) rfl ?_;refine uU hd.cD ?_;have fail:∀(e:Int) (x':PG) (D':Nat->Prop) (H1:aa) (s':Pl),bQ x' D' H1 p dp s'->Step (λb=>D b\/x.all p b) (λb=>D' b\/x'.all p b) H H1->(∀F' H',aA F' H' p dp (s'.met e)->Step F F' H H'->K (0,0,e) H')->
   wJ.sp (aK p) e H1 λr o=>K (0,0,r) o:=by
  intro e x' D' H1 s' h1 v hk;refine w9 (hd.gl V v.mod) h1 λo B M=>?_;obtain⟨F',w,N⟩:=B.out (x:=x) (D:=D) (F:=F) (H:=H) hF (v.trans M);exact hk F' o w N
 refine ah (λW=>?_) (λW=>?_)
 ·have l:(s.d.len n).2=0:=by simpa using W
  rw[if_neg (by simpa using l)] at a;refine CZ V hd (by omega) λC D1 H1 h1 v=>?_;have O:Gl H1:=hd.gl V v.mod;refine au λo s2 r2 y=>?_;have B:=h1.ext y;have M:=v.behind y;have E:Gl o:=O.mod y id;refine ah (λhr=>?_) (λhr=>?_)
  ·have m:s.room.2=0:=by simpa using hr
   rw[if_neg (by simpa using m)] at a;have hA:dK o ⟨H1.size,Sl.mk none 0 0⟩ ⟨n,(s.d.len n).1,0,[],false,[],0⟩:=⟨r2,aF.nil _ _ _⟩;have t:∀b,uC.fp ⟨H1.size,Sl.mk none 0 0⟩ b->b=H1.size:=by
    rintro b (e|⟨ad,q,_⟩)
    ·exact e
    ·cases q
   have j:∀b,D1 b\/C.all p b->b<H1.size:=h1.lt;have af:s.room.1.d.aH<68719476736:=by
    have:s.room.1.d.aH<=s.d.aH+1:=s.ko;omega
   refine vL (f:=⟨n,(s.d.len n).1,0,[],false,[],0⟩) E B.cD B.aj.head rfl hA (by simp) (λb k q=>by have:=t b k;have:=j b (.inl q);omega) af (λP G H3 a3 Q=>?_) (λhe G H3 I a3 Q al m4 z4=>?_)
   ·have R:(s.room.1.d.write n ((s.d.len n).1:Int) (cT 0 [])).2≠0:=P;rw[if_pos R] at a;obtain⟨w,N⟩:=B.ks E a3 Q;refine aR (by simpa using P) ?_;exact fail _ C G H3 _ w (M.trans N) a
   ·have an:¬(s.room.1.d.write n ((s.d.len n).1:Int) (cT 0 [])).2≠0:=λq=>q he;rw[if_neg an] at a;obtain⟨w,N⟩:=B.ks E a3 Q;refine aE rfl ?_;have a8:∀b,b<H1.size->I[b]?=H3[b]?:=λb k=>m4.same b (by have:=y.size;have:=Q.mod.size;omega) (by show b≠H1.size;omega);have u:∀b,G b\/C.all p b->b≠H1.size:=by
     intro b q e;subst e;rcases q with q|q
     ·rcases Q.own _ q with r|r
      ·have:=j _ (.inl r);omega
      ·have:=y.size;omega
     ·have:=j _ (.inr q);omega
    have q4:bQ C G I p dp (s.room.1.bJ (s.room.1.d.write n ((s.d.len n).1:Int) (cT 0 [])).1):=
     ⟨w.aj.ar λb k hl=>m4.same b hl (u b (.inr k)),w.cD.ar λb k hl=>m4.same b hl (u b (.inl k)),w.apart,w.fi⟩
    have S:Step (λb=>D b\/x.all p b) (λb=>G b\/C.all p b) H I:=by
     have T:=M.trans N;refine⟨T.mod.trans' m4 λb k q=>?_,T.own⟩;have:b=H1.size:=q;have:=v.mod.size;omega
    have a1:Gl I:=hd.gl V S.mod;have z:GF C G I p ⟨H1.size,Sl.mk none 0 0⟩ ⟨n,(s.d.len n).1,0,[],false,[],0⟩:=by
     refine⟨al,λb k=>?_⟩;have eb:=t b k;refine⟨λq=>u b (.inl q) eb,λq=>u b (.inr q) eb,λq=>?_⟩;have:=O.lt;omega
    have U:=s.cI;have a6:=hd.aj.wf.yh;have hle:=Dk.kG hd.cD.wf n;obtain⟨f,J⟩:∃f:Fr,f=⟨n,(s.d.len n).1,0,[],false,[],0⟩:=⟨_,rfl⟩;rw[<-J] at z a;have c1:f.name=n:=by rw[J]
    have c2:f.page=(s.d.len n).1:=by rw[J]
    have c3:f.b=[]:=by rw[J]
    have c4:f.pins=[]:=by rw[J]
    have c5:f.left=0:=by rw[J]
    have d1:(s.room.1.bJ (s.room.1.d.write n ((s.d.len n).1:Int) (cT 0 [])).1).fs.length<(s.room.1.bJ (s.room.1.d.write n ((s.d.len n).1:Int) (cT 0 [])).1).most:=by
     show _<s.room.1.most;rw[U.1];exact a6.2 m
    have d2:(s.room.1.bJ (s.room.1.d.write n ((s.d.len n).1:Int) (cT 0 [])).1).next<9223372036854775807:=by
     show s.room.1.next<_;rw[U.2.1];exact Y
    have d3:(s.room.1.bJ (s.room.1.d.write n ((s.d.len n).1:Int) (cT 0 [])).1).find f.name f.page=none:=by
     rw[c1,c2];exact Pl.nX (L.new l)
    have d4:f.b.length<=504:=by rw[c3];exact Q5 _
    have d5:f.page<1048577:=by rw[c2];omega
    have d6:f.name.size<=9223372036854775807:=by rw[c1];exact hn
    show EX.sp (aK p) (aK H1.size) I (λr H7=>K (r,((s.d.len n).1:Int),0) H7);refine De (g:=⟨H1.size,Sl.mk none 0 0⟩) (K:=λr H7=>K (r,((s.d.len n).1:Int),0) H7) a1 q4 z d1 d2 d3 d4 d5 d6 c4 c5 λx5 H5 h5 S5=>?_;have a7:Step (λb=>D b\/x.all p b) (λb=>G b\/x5.all p b) H H5:=by
     refine⟨S.mod.trans' S5.mod λb k q=>?_,λb k=>?_⟩
     ·rcases q with q|q
      ·exact(S.own b q).resolve_right (by omega)
      ·have:=t b q;have:=v.mod.size;omega
     ·rcases S5.own b k with q|q
      ·rcases q with q|q
       ·exact S.own b q
       ·have:=t b q;have:=v.mod.size;exact .inr (by omega)
      ·exact .inr (QZ S.mod.size q)
    obtain⟨F',t1,t2⟩:=h5.out (x:=x) (D:=D) (F:=F) (H:=H) hF a7;exact a F' H5 t1 t2
  ·have m:s.room.2≠0:=by simpa using hr
   rw[if_pos m] at a;refine aR (by simpa using m) ?_;exact fail _ C D1 o _ B M a
 ·have l:(s.d.len n).2≠0:=by simpa using W
  rw[if_pos l] at a;refine au λo s2 r2 y=>?_;refine aE W ?_;have ht:((s.d.len n).2!=0)=true:=by simpa using l
  refine aR ht ?_;exact fail _ x D o s (hd.ext y) (Step.ext y) a
end
section
open Go.MapKept
theorem yi {x:PG}{H:aa}{p dp:Nat}{s:Pl}{k:Int}{K:(Option hY×Int)->aa->Prop}(h:bG x H p dp s)(b:s.wrong≠0->K (none,s.wrong) H)
  (d:s.wrong=0->s.held k=none->K (none,32) H) (e:∀i f g,s.wrong=0->s.held k=some i->x.zs[i]?=some (f,g)->k∈f.pins->K (aK g.p,0) H):IC.sp (aK p) k H K:=by
 refine IC.of ?_;unfold IC.vc;simp only[aw];refine jf h ?_;refine ah (λhw=>b (by simpa using hw)) (λhw=>?_);have a:s.wrong=0:=by simpa using hw
 refine h.head.ld (c:=cd) (i:=3) (x:=some x.mh) rfl ?_;exact Gz h (λi f g hi j hk=>e i f g a hi j hk) (λhi=>d a hi)
theorem MS {F:Nat->Prop}{H:aa}{p dp:Nat}{s:Pl}{k:Int}{K:(Int×Sl×Int)->aa->Prop}(h:aA F H p dp s)
  (a:∀sl H',aF EB fU H' sl (s.get k).2.1->Ext H H'->(∀b,ai sl b->H.size<=b)->K (((s.get k).1.toNat:Int),sl,(s.get k).2.2) H'):Mi.sp (aK p) k H K:=by
 obtain⟨x,D,hd,t⟩:=h;refine Mi.of ?_;unfold Mi.vc;unfold Pl.get at a;have nil:∀b,ai (Sl.mk none 0 0) b->H.size<=b:=by rintro b ⟨ad,q,_⟩;cases q
 refine yi hd.aj (λhw=>?_) (λhw j=>?_) (λi f g hw j r hk=>?_)
 ·rw[if_pos hw] at a;exact aR (by simpa using hw) (a _ H (aF.nil _ _ _) (.refl _ _) nil)
 ·rw[if_neg (λq=>q hw),j] at a;exact aR rfl (a _ H (aF.nil _ _ _) (.refl _ _) nil)
 ·have d:s.fs[i]?=some f:=by rw[hd.aj.fs];simp[PG.fs,r]
  rw[if_neg (λq=>q hw),j] at a;simp only[Pl.fZ d] at a;have l:=hd.aj.ag.each _ (QL r);refine aE rfl ⟨λH'=>Ext H H',.refl _ _,?_⟩;simp only[aw];refine⟨(f.kind.toNat:Int),λH' e=>?_,?_⟩
  ·rw[bg];exact ao.cell (ao.ext l.row e) rfl
  ·refine l.row.ld (c:=aq) (i:=3) (x:=g.b) rfl ?_;have n:=hd.aj.wf.room f (QL d);refine gF (cg l.b) (by show f.b.length<=_;omega) λsl H' o m fr=>⟨m,a sl H' o m fr⟩
theorem bQ.OB {x:PG}{D:Nat->Prop}{H H':aa}{p dp:Nat}{s:Pl}{i:Nat}{f:Fr}{g g':uC}{u:Fr->Fr}(m:Gl H)(h:bQ x D H p dp s)(j:x.zs[i]?=some (f,g))(hk:(u f).key=f.key)(a:(u f).pins=f.pins)(hl:(u f).left=f.left)(k:(u f).b.length<=504)(n:g'.p=g.p)
  (o:dK H' g' (u f)) (hm:Mod (λb=>b=g.p) H H') (q:∀b,g'.fp b->g.fp b\/H.size<=b):
  bQ {x with zs:=x.zs.set i (u f,g')} D H' p dp (s.dz i u)/\Step (λb=>D b\/x.all p b) (λb=>D b\/PG.all {x with zs:=x.zs.set i (u f,g')} p b) H H':=by
 have c:=QL j;have d:s.fs[i]?=some f:=by rw[h.aj.fs];simp[PG.fs,j]
 have h1:(u f).name=f.name:=congrArg Xo hk;have r:(u f).page=f.page:=congrArg XV hk;obtain⟨t1,t2⟩:=h.aj.ag.dz (H':=H') (z':=(u f,g')) j h1 r a n o (λb _ t hl=>hm.same b hl λe=>t (e▸.inl rfl)) q;have l:bG {x with zs:=x.zs.set i (u f,g')} H' p dp (s.dz i u):=by
  refine⟨hm.at h.aj.head λe=>bG.off h.aj.head h.aj.ag (e▸.inr (.inr ⟨_,c,.inl rfl⟩)),t1,?_,h.aj.wf.dz d hk a hl k⟩;show s.fs.modify i u=(x.zs.set i (u f,g')).map (·.1);rw[bm d,h.aj.fs];simp[PG.fs,R9]
 exact h.js m l rfl (hm.mono λb _ e=>.inr (.inr (.inr ⟨_,c,.inl e⟩))) t2
theorem FR {F:Nat->Prop}{H:aa}{p dp:Nat}{s:Pl}{k:Int}{kd:UInt8}{b:Sl}{l:List UInt8}{K:Int->aa->Prop}(v:Gl H)(h:aA F H p dp s)(j:bW H b l)
  (a:∀F' H',aA F' H' p dp (s.set k kd l).1->Step F F' H H'->K (s.set k kd l).2 H'):AW.sp (aK p) k (kd.toNat:Int) b H K:=by
 have c:=h;obtain⟨x,D,hd,z⟩:=h;refine AW.of ?_;unfold AW.vc;unfold Pl.set at a;have w:=j.n;refine yi hd.aj (λhw=>?_) (λhw o=>?_) (λi f g hw o y hk=>?_)
 ·rw[if_pos hw] at a;exact aR (by simpa using hw) (a F H c (.refl _ _))
 ·rw[if_neg (λq=>q hw),o] at a;exact aR rfl (a F H c (.refl _ _))
 ·rw[if_neg (λq=>q hw),o] at a;simp only at a;refine aE rfl (ah (λhl=>?_) (λhl=>?_))
  ·have d:l.length>504:=by rw[w] at hl;simp at hl;omega
   rw[if_pos d] at a;exact a F H c (.refl _ _)
  ·have d:¬l.length>504:=by rw[w] at hl;simp at hl;omega
   rw[if_neg d] at a;refine gF j (by omega) λsl H1 A m1 f1=>?_;have r:=hd.ext m1;have B:Gl H1:=v.mod m1 id;have m:=QL y;have C:=r.aj.ag.each _ m;simp only[aw];refine C.row.st (i:=2) (by decide:2<7) (by rfl) λO r2 m2 z2=>?_;refine r2.st (i:=3) (by decide:3<7) (by rfl) λP E m3 z3=>?_;refine E.st (i:=4) (by decide:4<7) (by rfl) λn G m4 z4=>?_;have m14:Mod (λb=>b=g.p) H1 n:=(m2.trans m3).trans m4;have t:Mod (λb=>b=g.p) H n:=(Ext.mod m1).trans m14;have I:g.p<H.size:=aI (hd.aj.ag.each _ m).row;have J:dK n ⟨g.p,sl⟩ (Fr.set kd l f):=by
    refine⟨G,A.ar λb j hl=>m14.same b hl λe=>?_⟩;have L:=f1 b j;have:b=g.p:=e;omega
   obtain⟨M,N⟩:=hd.OB (g':=⟨g.p,sl⟩) (u:=Fr.set kd l) v y rfl rfl rfl (by show l.length<=504;omega) rfl J t (by
    rintro b (e|j)
    ·exact .inl (.inl e)
    ·exact .inr (f1 b j))
   obtain⟨F',t1,t2⟩:=M.out (x:=x) (D:=D) (F:=F) (H:=H) z N;exact a F' n t1 t2
theorem EH {h t:Int}{zs:List FZ}{i:Nat}{f:Fr}{g:uC}(m:zs[i]?=some (f,g))(hd:((zs.map (·.1)).flatMap (·.pins)).Nodup)(u:h∈f.pins):∀k v,(k,v)∈xH (zs.set i (Fr.bk h t f,g))↔(k,v)∈xH zs/\k≠.int .i64 h:=by
 intro k v;have n:=(QJ.1 m).1;have other:∀j (z:FZ),zs[j]?=some z->h∈z.1.pins->j=i:=by
  intro j z b hm;exact tO hd (i:=j) (j:=i) (f:=z.1) (g:=f) (by simp[b]) (by simp[m]) hm u
 unfold xH;simp only[Sm];constructor
 ·rintro⟨z,o,e⟩;rcases kB o with ⟨j,p,b⟩|rfl
  ·refine⟨⟨z,QL b,e⟩,λq=>?_⟩;obtain⟨y,c,a⟩:=QW.1 e;simp only[RJ] at a;rw[q] at a;simp only[VI,true_and] at a;rw[a.1] at c;exact p (other j z b c)
  ·obtain⟨y,c,a⟩:=QW.1 e;have d:=Rp.1 c;simp only[RJ] at a;refine⟨⟨(f,g),QL m,QW.2 ⟨y,d.1,by simp only[RJ];exact a⟩⟩,λq=>?_⟩;rw[q] at a;simp only[VI,true_and] at a;have:=d.2;rw[a.1] at this;simp at this
 ·rintro⟨⟨z,r,e⟩,s⟩;obtain⟨j,b⟩:=QU.1 r;by_cases l:i=j
  ·subst l;rw[m] at b;cases b;refine⟨(Fr.bk h t f,g),QU.2 ⟨i,by simp[n]⟩,?_⟩;obtain⟨y,c,a⟩:=QW.1 e;refine QW.2 ⟨y,Rp.2 ⟨c,?_⟩,a⟩;simp only[RJ] at a;have:y≠h:=λq=>s (by rw[<-a.1,q]);simp[this]
  ·exact⟨z,QU.2 ⟨j,by rw[Rx,if_neg l];exact b⟩,e⟩
theorem pI {F:Nat->Prop}{H:aa}{p dp:Nat}{s:Pl}{k:Int}{K:Int->aa->Prop}(U:Gl H)(h:aA F H p dp s)(M:s.next<9223372036854775807)
  (n:∀F' H',aA F' H' p dp (s.bk k).1->Step F F' H H'->K (s.bk k).2 H'):FI.sp (aK p) k H K:=by
 have w:=h;obtain⟨x,D,hd,V⟩:=h;refine FI.of ?_;unfold FI.vc;have l:=hd.aj.wf.bk k M;unfold Pl.bk at n l;refine yi hd.aj (λhw=>?_) (λhw N=>?_) (λi f g hw N J hk=>?_)
 ·rw[if_pos hw] at n;exact aR (by simpa using hw) (n F H w (.refl _ _))
 ·rw[if_neg (λq=>q hw),N] at n;exact aR rfl (n F H w (.refl _ _))
 ·rw[if_neg (λq=>q hw),N] at n l;simp only at n l;refine aE rfl ?_;simp only[aw];have m:=QL J;have o:s.fs[i]?=some f:=by rw[hd.aj.fs];simp[PG.fs,J]
  have W:f.pins.length<=s.pins:=l8 (λf:Fr=>f.pins.length) s.fs i f o;have ht:=hd.aj.wf.tick;have L:=hd.aj.ag.each _ m;have y:=hd.aj.ag.off m;refine hd.aj.head.ld (c:=cd) (i:=3) (x:=some x.mh) rfl ?_;obtain⟨et,inf,hu,O,_,_⟩:=sW;refine uB hu O hd.aj.ag.hmap (k:=.int .i64 k) (show QI=QI from rfl) λz H1 r it _ t z1=>?_;have A:p≠x.mh:=λe=>bG.off hd.aj.head hd.aj.ag (.inr (.inl e));have B:ao H1 p Ed (pN dp x s):=t.at hd.aj.head A;refine B.ld (c:=ab .i64) (i:=5) (x:=s.tick) rfl ?_;refine B.st (i:=5) (by decide:5<8) (by rfl) λS r2 m2 z2=>?_;have C:g.p≠x.mh:=λe=>y.2 (.inl e.symm);have E:p≠g.p:=λe=>bG.off hd.aj.head hd.aj.ag (e▸.inr (.inr ⟨_,m,.inl rfl⟩));have G:ao S g.p Mz (OL g f):=m2.at (t.at L.row C) (λe=>E e.symm);refine G.ld (c:=ab .i64) (i:=5) (x:=(f.pins.length:Int)) rfl ?_;refine r2.ld (c:=ab .i64) (i:=5) (x:=fT (s.tick+1)) rfl ?_;refine G.st (i:=5) (by decide:5<7) (by rfl) λH3 X m3 z3=>?_;refine X.st (i:=6) (by decide:6<7) (by rfl) λu T m4 z4=>?_;have d:Mod (λb=>b=g.p\/b=x.mh\/b=p) H u:=(((t.mono λb _ e=>.inr (.inl e)).trans (m2.mono λb _ e=>.inr (.inr e))).trans (m3.mono λb _ e=>.inl e)).trans (m4.mono λb _ e=>.inl e);have hlen:=filter_one (po hd.aj.wf.pins o) hk;have Y:QI.wrap ((f.pins.length:Int) - 1)=(((Fr.bk k (fT (s.tick+1)) f).pins.length:Nat):Int):=by
   show _=(((f.pins.filter λx=>decide (x≠k)).length:Nat):Int);rw[wrap64 (by omega) (by omega)];omega
  have Z:dK u g (Fr.bk k (fT (s.tick+1)) f):=by
   refine⟨?_,L.b.ar λb I hl=>d.same b hl ?_⟩
   ·rw[Y] at T;exact T
   ·obtain⟨c,q⟩:=L.b.obj b I;rintro(e|e|e)
    ·rw[e] at q;exact absurd (aM L.row q) (by decide)
    ·rw[e,hd.aj.ag.hmap.obj] at q;cases q
    ·rw[e] at q;exact absurd (aM hd.aj.head q) (by decide)
  have j:=hd.aj.wf.pins;rw[hd.aj.fs] at j;have m24:Mod (λb=>b=g.p) S u:=m3.trans m4;obtain⟨t1,t2⟩:=hd.aj.ag.set (H':=u) (z':=(Fr.bk k (fT (s.tick+1)) f,g)) (eh':=z) (ch':=x.ch) J rfl rfl rfl Z (r.ar ((m24.same _ (by have:=r.lt;omega) (λe=>C e.symm)).trans (m2.same _ r.lt (λe=>A e.symm)))) (λa v=>by
   rw[it,hd.aj.ag.entH,EH J j hk]) (λb I P Q hl=>d.same b hl (by
    rintro(e|e|e)
    ·exact P (.inl e)
    ·exact Q e
    ·exact bG.off hd.aj.head hd.aj.ag (e▸I))) (λb I=>.inl I)
  have R:bG {x with zs:=x.zs.set i (Fr.bk k (fT (s.tick+1)) f,g),eh:=z,ch:=x.ch} u p dp {s with fs:=s.fs.modify i (Fr.bk k (fT (s.tick+1))),tick:=fT (s.tick+1)}:=by
   refine⟨m24.at r2 E,t1,?_,l⟩;show s.fs.modify i _=(x.zs.set i _).map (·.1);rw[bm o,hd.aj.fs];simp[PG.fs,R9]
  obtain⟨q1,q2⟩:=hd.js U R rfl (d.mono λb _ e=>by
   rcases e with e|e|e
   ·exact .inr (.inr (.inr ⟨_,m,.inl e⟩))
   ·exact .inr (.inr (.inl e))
   ·exact .inl e) t2
  obtain⟨F',t3,t4⟩:=q1.out (x:=x) (D:=D) (F:=F) (H:=H) V q2;exact n F' u t3 t4
theorem AA {F:Nat->Prop}{H:aa}{p dp:Nat}{s:Pl}{K:Int->aa->Prop}(h:aA F H p dp s)(a:K (s.fs.length:Int) H):K1.sp (aK p) H K:=by
 obtain⟨x,D,hd,b⟩:=h;refine K1.of ?_;unfold K1.vc;refine aE rfl ?_;simp only[aw];refine hd.aj.head.ld (c:=cd) (i:=2) (x:=some x.mf) rfl ?_;exact hd.aj.Oo a
theorem Fb {F:Nat->Prop}{H:aa}{p dp:Nat}{s:Pl}{K:Int->aa->Prop}(h:aA F H p dp s)(a:K (s.most:Int) H):Ma.sp (aK p) H K:=by
 obtain⟨x,D,hd,b⟩:=h;refine Ma.of ?_;unfold Ma.vc;refine aE rfl ?_;exact hd.aj.head.ld (c:=ab .i64) (i:=1) (x:=(s.most:Int)) rfl a
theorem yL {F:Nat->Prop}{H:aa}{p dp:Nat}{s:Pl}{K:Option hY->aa->Prop}(h:aA F H p dp s)(a:K (aK dp) H):Jz.sp (aK p) H K:=by
 obtain⟨x,D,hd,b⟩:=h;refine Jz.of ?_;unfold Jz.vc;refine aE rfl ?_;exact hd.aj.head.ld (c:=aB) (i:=0) (x:=aK dp) rfl a
theorem aA.cD {F:Nat->Prop}{H:aa}{p dp:Nat}{s:Pl}(f:Gl H)(h:aA F H p dp s):∃D,bw D H dp s.d/\(∀b,D b->F b)/\∀a H' d,bw a H' dp d->Step D a H H'->∃F',aA F' H' p dp (s.bJ d)/\Step F F' H H':=by
 obtain⟨x,D,hd,e⟩:=h;refine⟨D,hd.cD,λb g=>(e b).2 (.inl g),λa H' d c i=>?_⟩;obtain⟨j,k⟩:=hd.ks f c i;exact j.out (x:=x) (D:=D) (F:=F) (H:=H) e k
theorem Dy {zs:List FZ}(h:((zs.map (·.1)).map Fr.key).Nodup):(qx zs).Nodup:=by
 have e:(zs.map (·.1)).map Fr.key=zs.map λz=>(z.1.name,z.1.page):=by simp[Fr.key]
 rw[e] at h;unfold qx;unfold Wz at h ⊢;rw[Tg] at h ⊢;refine h.imp λ{a b} c q=>c ?_;simp only[RJ] at q;have:=mP q.1;simp only[RJ];exact⟨this.1,by omega⟩
theorem bG.perm {x:PG}{H:aa}{p dp:Nat}{s:Pl}(h:bG x H p dp s):(x.ef.toList.map λe=>(e.key,e.val)).Perm (qx x.zs):=by
 have hk:=h.wf.keys;rw[h.fs] at hk;have b:=h.ag.fmap.stamped;have c:(x.ef.toList.map λe=>(e.key,e.val)).Nodup:=by
  have:=b.2.2;unfold Wz at this ⊢;rw[Tg] at this ⊢;exact this.imp λd q=>d (congrArg Xo q)
 rw[SU c (Dy hk)];rintro⟨k,v⟩;rw[<-h.ag.entF k v];constructor
 ·intro q;obtain⟨e,he,a⟩:=QW.1 q;simp only[RJ] at a;exact⟨e,he,a.1,a.2⟩
 ·rintro⟨e,he,f,a⟩;exact QW.2 ⟨e,he,by rw[f,a]⟩
open Classical in
noncomputable def tH (x:PG) (a:gp×gp):Nat:=if ∃z∈x.zs,a.2=dt z.2.p/\z.1.pins≠[] then 1 else 0
theorem CC {x:PG}{H:aa}(h:aS H x){z:FZ}(b:z∈x.zs){k:gp}:tH x (k,dt z.2.p)=if z.1.pins.isEmpty then 0 else 1:=by
 unfold tH;by_cases a:z.1.pins=[]
 ·rw[if_neg,if_pos (Tb.2 a)];rintro⟨y,c,e,hyp⟩;have:=h.ptr b c (ub e);subst this;exact hyp a
 ·rw[if_pos ⟨z,b,rfl,a⟩,if_neg (λq=>a (Tb.1 q))]
theorem AX {x:PG}{H:aa}(h:aS H x):((qx x.zs).map (tH x)).sum=((x.fs.filter λf=>!f.pins.isEmpty)).length:=by
 have key:∀l:List FZ,(∀z∈l,z∈x.zs)->((qx l).map (tH x)).sum=((l.map (·.1)).filter λf=>!f.pins.isEmpty).length:=by
  intro l
  induction l with
  |nil=>intro _;rfl
  |cons z l b=>
    intro hl;have a:=b λy c=>hl y (Q8 _ c);simp only[qx,Q7,RS,S0] at a ⊢;rw[CC h (hl z Q9),a];cases z.1.pins.isEmpty<;>simp<;>omega
 exact key x.zs λ_ d=>d
theorem vJ {F:Nat->Prop}{H:aa}{p dp:Nat}{s:Pl}{K:Int->aa->Prop}(h:aA F H p dp s)(N:s.next<9223372036854775807)(O:∀H',Ext H H'->K (s.pinned:Int) H'):KC.sp (aK p) H K:=by
 obtain⟨x,D,hd,Y⟩:=h;refine KC.of ?_;unfold KC.vc;refine aR rfl ?_;simp only[aw];refine hd.aj.head.ld (c:=cd) (i:=2) (x:=some x.mf) rfl ?_;obtain⟨Z,inf,hu,_⟩:=nL;have d:=hd.aj.ag;refine pk hu d.fmap λH1 j o=>?_;have P:=aI j;have t:aS H1 x:=d.ar λb _ hl=>o.same b hl id;have hlen:=hd.aj.wf.len;have B:=hd.aj.wf.most;have hn:=hd.aj.n;have u:∀I,tH x I<=1:=by intro I;unfold tH;split<;>omega
 have hbound:∀l:List nW,(l.map λe=>tH x (e.key,e.val)).sum<=l.length:=by
  intro l
  induction l with
  |nil=>exact QN _
  |cons a l ih=>simp only[Q7,RS,Rr];have:=u (a.key,a.val);omega
 refine pq (it:=H.size) (λl n A=>n=(((l.map λe=>tH x (e.key,e.val)).sum:Nat):Int)/\Mod (λk=>k=H.size) H1 A) t.fmap j ⟨rfl,.refl _ _⟩ (λl b A A' q m _=>⟨q.1,q.2.trans m⟩) ?_ ?_
 ·rintro l e n A next ⟨rfl,v⟩ he Q w C _ _ f
  obtain⟨z,J,R,L⟩:=d.entry he;have S:aS A x:=t.ar λc E hl=>v.same c hl λq=>by have:=d.lt c E;omega
  have G:=S.each z J;refine⟨aK z.2.p,by rw[L];rfl,?_⟩;simp only[aw];refine G.row.ld (c:=ab .i64) (i:=5) (x:=(z.1.pins.length:Int)) rfl ?_;refine f _ _ ⟨?_,v⟩ rfl rfl;have T:l.length<=x.ef.size:=by
   have:=TA C (l₂:=x.ef.toList) (λy U=>w y U);simpa using this
  have hb:=hbound l;have o:tH x (e.key,e.val)=if z.1.pins.isEmpty then 0 else 1:=by rw[L];exact CC d J
  rw[Rm,List.sum_append,Q7,TD,RS,List.sum_nil,o];have V:(if (1:Int)<(z.1.pins.length:Int) then (1:Int) else (z.1.pins.length:Int))=((if z.1.pins.isEmpty then 0 else 1:Nat):Int):=by
   cases hq:z.1.pins with
   |nil=>rfl
   |cons a r=>
     simp only[Rr,List.isEmpty_cons];split<;>simp<;>omega
  rw[V,wrap64 (by omega) (by split<;>omega)];omega
 ·rintro l n A ⟨rfl,v⟩ g _;have W:Ext H A:=⟨by have:=o.size;have:=v.size;omega,λc E _=>(v.same c (by omega) (by omega)).trans (o.same c E id)⟩;have X:(l.map λe=>tH x (e.key,e.val)).sum=s.pinned:=by
   have h1:(l.map λe=>(e.key,e.val)).Perm (qx x.zs):=(g.map _).trans hd.aj.perm;have M:=(h1.map (tH x)).sum_nat;rw[AX d,R8] at M;unfold Pl.pinned;rw[hd.aj.fs];exact M
  rw[X];exact O A W
end
section
open Go.MapKept
def dW:eZ Nat:=⟨1,λp=>[dt p],λ_=>rfl,λx u hu=>by simp at hu;subst hu;rfl⟩
theorem uI (l:List Nat):dW.all l=l.map dt:=by
 induction l with
 |nil=>rfl
 |cons x l a=>
   have:dW.all (x::l)=dt x::dW.all l:=rfl;rw[this,a];rfl
theorem NZ:tc QH DM uO dW.size 8:=fe (by kernel_rfl)
def Cc (e:nW):Nat:=match e.val with|.pointer (some a)=>a.block|_=>0
theorem vm {l cap:Nat}{x:PG}{H:aa}{K:Unit->aa->Prop}(I:List nW->aa->Prop)(t:aS H x)(f:ao H cap zv #[.map (some x.mf)])
  (N:∀A,Mod (λ_=>False) H A->I [] A) (u:∀l A a,I l A->Mod (λb=>b=H.size) A a->a.size=A.size->I l a)
  (hs:∀ls e q A,I ls A->e∈x.ef.toList->e.val=dt q->(∀y∈ls,y∈x.ef.toList)->ls.Nodup->e∉ls->A[x.mf]?=some (.map x.ef x.cf)->H.size<A.size->cq QH l #[dt q] A λb a=>b=true/\I (ls++[e]) a/\a[x.mf]?=A[x.mf]?/\a[H.size]?=A[H.size]?)
  (g:∀ls A,I ls A->ls.Perm x.ef.toList->K () A):Ho.sp l ⟨cap,0,none⟩ H K:=by
 refine Ho.of ?_;unfold Ho.vc;have:=f.ld (c:=cd) (i:=0) (x:=some x.mf) rfl (K:=λx=>bf aB QH (Instr.range zv (.map x)) H λ(it:Option hY) H1=>ay Unit () H1 λnext _ O=>bf gM QH (Instr.next (.pointer it) false BN) O λ(P:Bool×List gp) E=>br P.1 (bf pS QH (Instr.entry (.pointer it)) E λ(Q:gp×gp) R=>JA aB Q.2 λ(v:Option hY)=>cq QH l #[.pointer v] R λ(b:Bool) F=>br (!b) (K () F) (next () F)) (K () E));refine this ?_;obtain⟨X,inf,hu,_,_⟩:=nL;refine pk hu t.fmap λH1 j G=>?_;have k:H.size<H1.size:=aI j;have w:aS H1 x:=t.ar λb _ hl=>G.same b hl id;refine pq (it:=H.size) (λls _ A=>I ls A/\H.size<A.size) w.fmap j ⟨N H1 G,k⟩ (λl x A a h m s=>⟨u l A a h.1 m s,by omega⟩) ?_ (λls x A h S _=>g ls A h.1 S);rintro ls e ⟨⟩ A next ⟨T,B⟩ he C n D U r d
 obtain⟨z,Y,_,J⟩:=t.entry he;refine⟨aK z.2.p,by rw[J];rfl,?_⟩;refine(hs ls e z.2.p A T he J n D C U B).mono λb a V=>?_;obtain⟨rfl,h1,W,L⟩:=V;refine aE rfl (d () a ⟨h1,?_⟩ W L);obtain⟨o,M⟩:=r;rw[<-L] at M;exact aI M
theorem sP {cap:Nat}{x:PG}{H:aa}{K:Sl->aa->Prop}(S:aS H x)(t:ao H cap zv #[.map (some x.mf)]) (hlen:x.ef.size<=1048576)
  (Z:∀(s:Sl) (ls:List nW) (H':aa),aF dW uO H' s (ls.map Cc)->ls.Perm x.ef.toList->Mod (λ_=>False) H H'->(∀b,ai s b->H.size<=b)->K s H'):
  Md.sp (Sl.mk none 0 0) (.func (.func Ho.no) #[] #[.pointer (some ⟨cap,0,none⟩)]) H K:=by
 refine Md.of ?_;unfold Md.vc;refine au λH1 s1 T m1=>?_;have g:c6 QH Ho.no=true:=by kernel_rfl
 refine⟨_,_,rfl,g,λrec d=>?_⟩;obtain⟨r,U⟩:∃r,r=H1.size:=⟨_,rfl⟩;obtain⟨l,hl⟩:∃l,l=H1.size+1:=⟨_,rfl⟩;obtain⟨p,M⟩:∃p,p=H.size:=⟨_,rfl⟩;rw[<-hl] at d ⊢;rw[<-U];rw[<-M] at T;rw[<-M] at d;rw[<-M];obtain⟨f,m⟩:∃f:aa,f=(H1.push (.deferred (some []))).push (.loop (rec .ready none)):=⟨_,rfl⟩;rw[<-m];have F:Mod (λ_=>False) H1 f:=by rw[m];exact(Mod.push _ _ _).trans (Mod.push _ _ _)
 have sB:f.size=H1.size+2:=by rw[m];simp
 have lB:f[l]?=some (.loop (rec .ready none)):=by rw[m,hl,TM,if_pos (by simp)]
 have rB:f[r]?=some (.deferred (some [])):=by rw[m,U];simp[TM]
 have pB:ao f p DM #[(Sl.mk none 0 0).v]:=T.ext F;have FB:aS f x:=(S.ar λb _ hl=>m1.same b hl id).ar λb _ hl=>F.same b hl id;have cB:ao f cap zv #[.map (some x.mf)]:=(t.ext m1).ext F;have af:=S.fmap.lt;have al:cap<H.size:=aI t
 let I:List nW->aa->Prop:=λls A=>A[l]?=some (.loop (rec .ready none))/\A[r]?=some (.deferred (some []))/\(∃s,ao A p DM #[s.v]/\aF dW uO A s (ls.map Cc)/\(∀b,ai s b->f.size<b))/\Mod (λb=>b=p\/b=l\/b=f.size) f A
 refine Spec.mono (R:=λv H'=>∃x:Unit,v=(aW []).enc x/\oS l rec H' _ _ _) (vm (l:=l) (cap:=cap) (x:=x) (H:=f) (K:=λ_ H'=>oS l rec H' _ _ _) I FB cB ?_ ?_ ?_ ?_) (λv H' ⟨x,_,h⟩=>h)
 ·intro A n;exact⟨n.at lB id,n.at rB id,⟨_,pB.ext n,aF.nil _ _ _,by rintro b ⟨ad,q,_⟩;cases q⟩,Ext.mod n⟩
 ·rintro ls A J ⟨i1,i2,⟨s,i3,i4,i5⟩,i6⟩ n hs;refine⟨n.at i1 (by omega),n.at i2 (by omega),⟨s,i3.mod n (by omega),i4.ar λb a j=>n.same b j (by have:=i5 b a;omega),i5⟩,i6.trans (n.mono λb _ e=>.inr (.inr e))⟩
 ·rintro ls e q A ⟨i1,i2,⟨s,i3,i4,i5⟩,i6⟩ he hv B N an O a1;refine d [dt q] A _ i1 ?_;show ji (some (aK q)) _;refine⟨i1,?_⟩;obtain⟨w,o⟩:∃w:aa,w=A.setIfInBounds l (.loop (rec .busy none)):=⟨_,rfl⟩;rw[<-o];have k:Mod (λb=>b=l) A w:=by rw[o];exact Mod.setObj rfl
  have a6:w.size=A.size:=by rw[o];simp
  have P:w[l]?=some (.loop (rec .busy none)):=by rw[o];exact gS i1
  have C:p≠l:=by omega
  have p1:=i3.mod k C;refine p1.ld (c:=aq) (i:=0) (x:=s) rfl ?_;have V:∀b,ai s b->b≠l:=λb a=>by have:=i5 b a;omega
  have o1:aF dW uO w s (ls.map Cc):=i4.ar λb a j=>k.same b j (V b a);have a7:(ls.map Cc).length<=1048576:=by
   have:=TA N (l₂:=x.ef.toList) (λy hy=>B y hy);simp at this ⊢;omega
  have Q:Cc e=q:=by unfold Cc;rw[hv];rfl
  refine aF.push (E:=dW) NZ (x:=q) o1 rfl (by omega) (by omega) λs2 W o2 g2 _=>?_;have lp:p<w.size:=aI p1;have tp:∀b,ai s b->b≠p:=λb a=>by have:=i5 b a;omega
  have p2:ao W p DM #[s.v]:=p1.mod g2.1 (λa=>tp _ a rfl);have a8:=i6.size;have t2:∀b,ai s2 b->f.size<b:=λb a=>by
   rcases g2.2 b a with q|q
   ·exact i5 b q
   ·omega
  have u:=p2.st (i:=0) (v:=s2.v) (by simp) rfl (K:=λX=>X[l]?=some (.loop (rec .busy none))/\(λb J=>b=true/\I (ls++[e]) J/\J[x.mf]?=A[x.mf]?/\J[f.size]?=A[f.size]?) true (X.setIfInBounds l (.loop (rec .ready none))));rw[show (Ru ⟨p,0,none⟩ 0)=⟨p,0,none⟩ from rfl] at u;refine u λL p3 m3 s3=>?_;have l2:W[l]?=some (.loop (rec .busy none)):=g2.1.at P (λa=>V _ a rfl);have Y:L[l]?=some (.loop (rec .busy none)):=m3.at l2 (by omega);have m4:Mod (λb=>b=l) L (L.setIfInBounds l (.loop (rec .ready none))):=Mod.setObj rfl;have z2:=g2.1.size;refine⟨Y,rfl,⟨gS Y,?_,⟨s2,?_,?_,t2⟩,?_⟩,?_,?_⟩
  ·exact m4.at (m3.at (g2.1.at (k.at i2 (by omega)) (λa=>by have:=i5 _ a;omega)) (by omega)) (by omega)
  ·exact ao.mod (show ao L p DM #[s2.v] from p3) m4 C
  ·rw[Rm,Q7,TD,Q];refine o2.ar λb a j=>?_;have:=t2 b a;exact(m4.same b (by omega) (by omega)).trans (m3.same b j (by omega))
  ·refine i6.trans' (G:=λb=>(b=l\/ai s b)\/b=p) ?_ ?_
   ·exact(((k.mono λb _ e=>.inl (.inl e)).trans (g2.1.mono λb _ e=>.inl (.inr e))).trans (m3.mono λb _ e=>.inr e)).trans (m4.mono λb _ e=>.inl (.inl e))
   ·rintro b a ((e|e)|e)
    ·exact .inr (.inl e)
    ·have:=i5 b e;omega
    ·exact .inl e
  ·have D:=aI O;exact(m4.same _ (by omega) (by omega)).trans ((m3.same _ (by omega) (by omega)).trans ((g2.1.same _ (by omega) (λa=>by have:=i5 _ a;omega)).trans (k.same _ D (by omega))))
  ·exact(m4.same _ (by omega) (by omega)).trans ((m3.same _ (by omega) (by omega)).trans ((g2.1.same _ (by omega) (λa=>by have:=i5 _ a;omega)).trans (k.same _ (by omega) (by omega))))
 ·rintro ls A ⟨i1,i2,⟨s,i3,i4,i5⟩,i6⟩ z;refine⟨.ready,none,i1,rfl,?_⟩;show ld aq _ _ _;have m4:Mod (λb=>b=l) A (A.setIfInBounds l (.loop (rec .exhausted none))):=Mod.setObj rfl;have p4:=i3.mod m4 (by omega);refine p4.ld (c:=aq) (i:=0) (x:=s) rfl ?_;have r4:=m4.at i2 (by omega);refine⟨r4,?_⟩;have m5:Mod (λb=>b=r) (A.setIfInBounds l (.loop (rec .exhausted none))) ((A.setIfInBounds l (.loop (rec .exhausted none))).setIfInBounds r (.deferred none)):=Mod.setObj rfl;have z6:=i6.size;have z4:=m4.size;refine Z s ls _ ?_ z ?_ (λb a=>by have:=i5 b a;omega)
  ·refine i4.ar λb a j=>?_;have:=i5 b a;exact(m5.same b (by omega) (by omega)).trans (m4.same b j (by omega))
  ·have z5:=m5.size;refine⟨by omega,λb a _=>(m5.same b (by omega) (by omega)).trans ((m4.same b (by omega) (by omega)).trans ((i6.same b (by omega) (by omega)).trans ((F.same b (by omega) id).trans (m1.same b a id))))⟩
theorem tq {H:aa}{s:Sl}{ps:List Nat}(h:aF dW uO H s ps){i:Nat}{q:Nat}(hi:ps[i]?=some q){z:Int}(d:z=(i:Int)){K:hY->Option hY->Prop}(e:∀ad,s.a=some ad->K ad (aK q)):
  ae s.a λa=>(0<=z/\z<(s.n:Int))/\ld aB H (a.add (z.toNat*1)) λv=>K a v:=by
 subst d;have f:=(QJ.1 hi).1;have g:=h.n (by decide);obtain⟨ad,b⟩:=bX.addr h.rd (by decide) (by omega);refine aZ ad b ⟨⟨by omega,by omega⟩,?_⟩;have:=bX.ld (E:=dW) (c:=aB) (y:=aK q) h.rd b hi (j:=0) rfl (n:=i*1) rfl (e ad b);rw[show (Ru (Ru ad (i*1)) 0)=Ru ad (i*1) from rfl] at this;rw[QP];exact this
structure Kept (H:aa)(cap:Nat)(n:ByteArray)(ps:List Nat)(sel:Nat->Bool):Prop where
 cap:ao H cap dG #[.string n]
 fr:∀q∈ps,∃g f,dK H g f/\g.p=q/\sel q=(f.name.toList==n.toList)
theorem GL {H:aa}{cap q:Nat}{n:ByteArray}{ps:List Nat}{sel:Nat->Bool}{K:Bool->aa->Prop}(h:Kept H cap n ps sel)(b:q∈ps)(d:K (!sel q) H):Fh.sp (aK q) ⟨cap,0,none⟩ H K:=by
 refine Fh.of ?_;unfold Fh.vc;simp only[aw,add_add,Wl];obtain⟨g,f,e,rfl,hs⟩:=h.fr q b;refine e.row.ld (c:=aN) (i:=0) (x:=f.name) rfl ?_;have:=h.cap.ld (c:=aN) (i:=0) (x:=n) rfl (K:=λ(a:ByteArray)=>K (!(f.name.toList==a.toList)) H);rw[show (Ru ⟨cap,0,none⟩ 0)=⟨cap,0,none⟩ from rfl] at this;refine this ?_;rw[<-hs];exact d
theorem BP {H:aa}{cap:Nat}{n:ByteArray}{s:Sl}{ps:List Nat}{sel:Nat->Bool}{K:Int->aa->Prop}(h:aF dW uO H s ps)(hk:Kept H cap n ps sel)(hl:ps.length<=1048576)
  (j:ps.filter sel=ps->K (-1) H) (l:∀i,i<ps.length->(ps.take i).filter sel=ps.take i->(∃q,ps[i]?=some q/\sel q=false)->K (i:Int) H):LF.sp s ⟨cap,0,none⟩ H K:=by
 refine LF.of ?_;unfold LF.vc;have f:=h.n (by decide);refine av ps.length (λk x H1=>H=H1/\x=(k:Int)/\(ps.take k).filter sel=ps.take k) ⟨rfl,rfl,by simp⟩ ?_;rintro k _ _ next m ⟨rfl,rfl,d⟩ b
 refine ah (λc=>?_) (λc=>?_)
 ·have a:k<ps.length:=by rw[f] at c;simpa using c
  have g:ps[k]?=some ps[k]:=QK a;refine tq h g rfl λad o=>?_;refine GL hk (Re a) ?_;cases hs:sel ps[k] with
  |false=>exact aR rfl (l k a d ⟨_,g,hs⟩)
  |true=>
    refine aE rfl (b a _ _ ⟨rfl,aD k (by omega),?_⟩);rw[QO a,Sh,d];simp[hs]
 ·have e:k=ps.length:=by rw[f] at c;simp at c;omega
  rw[e,QS (QN _)] at d;exact j d
theorem qa {P:hQ}{w:World}{g o:Nat}{t:ic}{vs:List gp}{cur:Array gp}(d:w.heap[g]?=some (.cells cur t (0,0)))(c:o+vs.length<=cur.size)(h1:∀v∈vs,v.oneCell'=true):
  w.setCells g o vs=w.setRow g (cur.toList.take o++vs++cur.toList.drop (o+vs.length)).toArray:=by
 have a:=run_storeCells_cells (P:=P) g o vs 0 w (λj e=>by simp[Yq,d];omega) (λj e=>by simp[XW,d]) h1;have b:=run_storeCells_at P g o t vs 0 cur w d (by simpa using c) h1;simp only[Ux] at a b;rw[a] at b;simpa using b
theorem Jr:∀w:World,(zeroValue uO).run QH w=.ok (.pointer none) w:=ZO
theorem MG:QH.underlying DM=some (.slice uO):=by kernel_rfl
theorem Fa {H:aa}{s:Sl}{ps:List Nat}{lo:Nat}{ty:ic}{K:gp->aa->Prop}(h:aF dW uO H s ps)(o:lo<ps.length)
  (l:∀v H',aF dW uO H' (Sl.mk s.a lo s.c) (ps.take lo)->Mod (ai s) H H'->K v H'):
  bf gR QH (VY #[DM] ty #[.slice (cM s.a s.c lo 1) (s.n - lo) (s.c - lo)]) H K:=by
 intro w hw;subst hw;have p:=h.n (by decide);rcases h.2 with ⟨b,A⟩|⟨g,cap,cur,b,B,d,q,r,t,i⟩
 ·omega
 ·cases s with
  |mk C m f=>
  simp only[Sl.v,Q2] at b;obtain⟨rfl,_,rfl⟩:=b;simp only at p q i l ⊢;have a:dW.size=1:=rfl;rw[a,Rz] at t i;have u:cM (some ⟨g,0,none⟩) f lo 1=some ⟨g,lo,none⟩:=by
   unfold cM;rw[if_neg (by omega)];simp[bg]
  rw[u];have n:=Lib.run_clear_slice (P:=QH) w DM uO ty (.pointer none) MG Jr rfl rfl g lo (m - lo) (f - lo) (by omega) (λj x=>by simp[Yq,d];omega) (λj x=>by simp[XW,d]);rw[qa (P:=QH) d (by simp;omega) (by intro v y;rw[List.eq_of_mem_replicate y];rfl)] at n;have c:∀k,ai (Sl.mk (some ⟨g,0,none⟩) m f) k↔k=g:=λk=>⟨λ⟨ad,h1,z⟩=>by cases h1;exact z.symm,λh=>⟨_,rfl,h.symm⟩⟩;refine⟨_,_,n,⟨_,rfl,l _ _ ?_ ⟨by simp[World.setRow],λk _ hk=>setRow_other w g k _ (λe=>hk ((c k).2 e))⟩⟩,⟨rfl,QN _⟩⟩;refine⟨by rw[uI];simp[a];omega,.inr ⟨g,f,_,rfl,Q5 _,setRow_heap w g cur _ _ _ d,by simp only;omega,r,?_,?_⟩⟩
  ·simp only[a,Rz,List.size_toArray,Ri,Ro,List.length_replicate,RM,Array.length_toList];omega
  ·simp only[a,Rz];rw[RD,List.take_append_of_le_length (by simp;omega),T0,Nat.min_self];have b:dW.all (ps.take lo)=(dW.all ps).take lo:=by rw[uI,uI,XE]
   rw[b,<-i,T0,TL (by omega)]
theorem Dz {H:aa}{cap:Nat}{n:ByteArray}{s:Sl}{ps:List Nat}{sel:Nat->Bool}{K:Sl->aa->Prop}(h:aF dW uO H s ps)(hk:Kept H cap n ps sel)(hl:ps.length<=1048576)(w:∀b,ai s b->b≠cap)
  (Y:∀s' H',aF dW uO H' s' (ps.filter sel)->Mod (ai s) H H'->(∀b,ai s' b->ai s b)->K s' H'):LK.sp s ⟨cap,0,none⟩ H K:=by
 refine LK.of ?_;unfold LK.vc;have Z:=h.n (by decide);have al:=aO.cap h;refine BP h hk hl (λB=>aR rfl (Y s H (by rw[B];exact h) (.refl _ _) λ_ q=>q)) (λi hi C M=>?_);refine aE (by simp) ?_
 -- the frames' own blocks are not the slice's
 have af:∀q∈ps,¬ai s q:=by
  intro q D N;obtain⟨c,e⟩:=h.obj q N;obtain⟨g,f,I,rfl,_⟩:=hk.fr q D;exact absurd (aM I.row e) (by decide)
 have r:∀{A:aa},Mod (ai s) H A->(∀q∈ps,∃g f,dK H g f/\g.p=q/\sel q=(f.name.toList==n.toList))->Kept A cap n ps sel:=by
  intro A u _;refine⟨u.at hk.cap λq=>w cap q rfl,λq D=>?_⟩;obtain⟨g,f,I,J,e2⟩:=hk.fr q D;refine⟨g,f,I.ar λb N hl=>u.same b hl λq2=>?_,J,e2⟩;obtain⟨c,e⟩:=h.obj b q2;obtain⟨cs,t,e3,ht⟩:=I.obj b N;have:=aM e e3;rw[<-this] at ht;exact absurd ht (by decide)
 obtain⟨q0,E,O⟩:=M;have P:QI.wrap ((i:Int)+1)=((i+1:Nat):Int):=aD i (by omega);rw[P];refine⟨Nat×Nat×List Nat,λt z A=>z=((t.1:Int),(t.2.1:Int))/\aF dW uO A s t.2.2/\t.2.2.length=ps.length/\t.2.2.take t.1=(ps.take t.2.1).filter sel/\t.2.2.drop t.2.1=ps.drop t.2.1/\t.1<t.2.1/\t.2.1<=ps.length/\Mod (ai s) H A,λt=>ps.length - t.2.1,⟨(i,i+1,ps),rfl,h,rfl,?_,rfl,Nat.lt_succ_self _,hi,.refl _ _⟩,?_⟩
 ·show ps.take i=(ps.take (i+1)).filter sel;have D:ps[i]=q0:=by rw[QK hi] at E;exact Rc E
  rw[QO hi,Sh,C,D];simp[O]
 ·rintro⟨a,j,cur⟩ z A ⟨rfl,o,hlen,k,m,Q,hj,u⟩;simp only at o hlen k m Q hj ⊢;have R:=r u hk.fr;refine ah (λF=>?_) (λF=>?_)
  ·have d:j<ps.length:=by rw[Z] at F;simp at F;omega
   have S:cur[j]?=some ps[j]:=by
    have J:(cur.drop j)[0]?=(ps.drop j)[0]?:=by rw[m]
    rw[Si,Si,Ux,QK d] at J;exact J
   refine tq o S rfl λad ha=>?_;refine GL R (Re d) ?_;have G:QI.wrap ((j:Int)+1)=((j+1:Nat):Int):=aD j (by omega);have p:∀l:List Nat,l.drop j=ps.drop j->l.drop (j+1)=ps.drop (j+1):=by
    intro l e;have:(l.drop j).drop 1=(ps.drop j).drop 1:=by rw[e]
    rwa [TZ,TZ] at this
   cases hs:sel ps[j] with
   |false=>
     refine aE rfl ⟨(a,j+1,cur),⟨by rw[G],o,hlen,?_,p cur m,by simp only;omega,d,u⟩,by simp only;omega⟩;simp only;rw[QO d,Sh,k];simp[hs]
   |true=>
     refine aR rfl ?_;rw[ha];refine⟨⟨by omega,by omega⟩,?_⟩;have T:a<cur.length:=by omega
     have U:cur[a]?=some cur[a]:=QK T;rw[QP];show st A (Ru (Ru ad (a*1)) 0) (dt ps[j]) _;refine aF.st (i:=a) (j:=0) (x:=cur[a]) (y:=ps[j]) o ha U (by decide) rfl rfl rfl λA' L V z'=>?_;have W:QI.wrap ((a:Int)+1)=((a+1:Nat):Int):=aD a (by omega);refine⟨(a+1,j+1,cur.set a ps[j]),⟨by rw[W,G],L,by simp[hlen],?_,?_,by simp only;omega,d,u.trans V⟩,by simp only;omega⟩
     ·simp only;rw[QO d,Sh,<-k,QO (by simp;omega),List.take_set_of_le (QN _)];simp[hs]
     ·simp only;rw[List.drop_set_of_lt (by omega)];exact p cur m
  ·have X:j=ps.length:=by rw[Z] at F;simp at F;omega
   subst X;rw[QS (QN _)] at k;refine⟨⟨by omega,by omega⟩,?_⟩;rw[QP];refine Fa o (by omega) λv A' L V=>⟨⟨by omega,by omega⟩,?_⟩;rw[mu,Wb,Wb];rw[k] at L;exact Y _ A' L (u.trans V) λb q=>q
end
section
open Go.MapKept Go.Shelf Go.Sort
def PG.of (x:PG)(n:ByteArray):List FZ:=(x.zs.filter λz=>z.1.name.toList==n.toList).mergeSort λa b=>decide (a.1.page<=b.1.page)
theorem PG.fJ {x:PG}{n:ByteArray}{z:FZ}:z∈x.of n↔z∈x.zs/\z.1.name=n:=by
 unfold PG.of;rw[YM,Rp];constructor
 ·rintro⟨h1,a⟩;exact⟨h1,ig (by simpa using a)⟩
 ·rintro⟨h1,a⟩;exact⟨h1,by rw[a];simp⟩
theorem oF {l r:List Nat}(h:l.Perm r)(hl:l.Pairwise (·<=·))(c:r.Pairwise (·<=·)):l=r:=
 TE (le:=(·<=·)) (λa b _ _ h1 d=>Nat.le_antisymm h1 d) hl c h
theorem PG.vG (x:PG)(n:ByteArray):(x.of n).Pairwise λa b=>a.1.page<=b.1.page:=by
 unfold PG.of;have:=Sw (le:=λa b:FZ=>decide (a.1.page<=b.1.page)) (λ_ _ _ h1 c=>by simp at*;omega) (λ_ _=>by simp;omega) (x.zs.filter λz=>z.1.name.toList==n.toList);exact this.imp λh=>by simpa using h
theorem PG.Af {x:PG}{s:Pl}(h:s.fs=x.fs)(n:ByteArray):(x.of n).map (λz=>z.1.page)=s.bE n:=by
 refine oF ?_ ?_ ?_
 ·rw[Pl.gQ];unfold PG.of;rw[h];unfold PG.fs;refine((RG _ _).map _).trans (W9 ?_ (RG _ _).symm);rw[Xa,R8];exact List.Perm.refl _
 ·rw[Tg];exact x.vG n
 ·rw[Pl.gQ];have:=Sw (le:=λa b:Nat=>decide (a<=b)) (λ_ _ _ h1 c=>by simp at*;omega) (λ_ _=>by simp;omega) ((s.fs.filter λf=>f.name.toList==n.toList).map (·.page));exact this.imp λh=>by simpa using h
theorem kV {α β:Type}(f:α->β){l:List α}(h:(l.map f).Nodup):l.Nodup:=by
 unfold Wz at*;rw[Tg] at h;exact h.imp λa e=>a (by rw[e])
theorem wR {α β:Type}{f:α->β}:∀{l:List β},(∀b∈l,∃a,f a=b)->∃r:List α,r.map f=l
 |[],_=>⟨[],rfl⟩
 |b::l,h=>by
   obtain⟨a,d⟩:=h b Q9;obtain⟨r,e⟩:=wR (l:=l) λc g=>h c (Q8 _ g);exact⟨a::r,by rw[Q7,d,e]⟩
theorem HE {H:aa}{d zb:FZ}(e:dK H d.2 d.1)(f:dK H zb.2 zb.1)(h1:d.1.page<1048577)(k:zb.1.page<1048577):
  Spec QH Fq.no #[dt d.2.p,dt zb.2.p] H λv H'=>v=.int .i64 ((d.1.page:Int) - (zb.1.page:Int))/\Mod (λ_=>False) H H':=by
 have:=Fq.of (a:=aK d.2.p) (b:=aK zb.2.p) (H:=H) (R:=λr H'=>r=(d.1.page:Int) - (zb.1.page:Int)/\Mod (λ_=>False) H H') (by
  unfold Fq.vc;simp only[aw,add_add,Wl];refine e.row.ld (c:=ab .i64) (i:=1) (x:=(d.1.page:Int)) rfl ?_;refine f.row.ld (c:=ab .i64) (i:=1) (x:=(zb.1.page:Int)) rfl ?_;exact⟨wrap64 (by omega) (by omega),.refl _ _⟩)
 refine Spec.mono this λv H' ⟨x,g,h,j⟩=>?_;subst g;exact⟨by rw[h],j⟩
theorem EF:∀args w,(callFunc Fq.no args).run QH w=.ok (.enter Fq.no args) w:=enters_of abk (by kernel_rfl) rfl
theorem Lq {x:PG}{H:aa}{p dp:Nat}{s:Pl}{n:ByteArray}{K:Sl->aa->Prop}(h:bG x H p dp s)
  (hK:∀sl H',aF dW uO H' sl ((x.of n).map λz=>z.2.p)->Ext H H'->(∀b,ai sl b->H.size<=b)->K sl H'):KD.sp (aK p) n H K:=by
 refine KD.of ?_;unfold KD.vc;simp only[aw];refine au λH1 s1 r1 e1=>?_;have h1:bG x H1 p dp s:=h.ar λb _ hl=>e1.same b hl id;refine h1.head.ld (c:=cd) (i:=2) (x:=some x.mf) rfl ?_;refine Mn.of ?_;unfold Mn.vc;refine au λH2 s2 r2 Y=>?_;refine M7.of ?_;unfold M7.vc;have F2:aS H2 x:=h1.ag.ar λb _ hl=>Y.same b hl id;have hlen:=h.wf.len;have af:=h.wf.most;have bx:=h.n;refine sP F2 r2 (by omega) λsl ls H3 o3 al Z f3=>?_;have N:aS H3 x:=F2.ar λb _ hl=>Z.same b hl id;have z1:=e1.size;have z2:=Y.size;have z3:=Z.size
 -- the pointers that were met are the frames'
 have r:(ls.map Cc).Perm (x.zs.map λz=>z.2.p):=by
  have q1:=(al.map λe=>(e.key,e.val)).trans h.perm;have q2:=q1.map λkv:gp×gp=>(match kv.2 with|.pointer (some a)=>a.block|_=>0);rw[R8] at q2;refine W9 (Yc ?_) (q2.trans (Yc ?_))
  ·exact TO λe _=>rfl
  ·unfold qx;rw[R8];exact TO λz _=>rfl
 have an:∀q∈ls.map Cc,∃z∈x.zs,z.2.p=q:=by
  intro q D;obtain⟨z,m,e⟩:=QW.1 (r.mem_iff.1 D);exact⟨z,m,e⟩
 let sel:Nat->Bool:=λq=>x.zs.any λz=>z.2.p==q&&z.1.name.toList==n.toList
 have G:∀z∈x.zs,sel z.2.p=(z.1.name.toList==n.toList):=by
  intro z m;cases D:z.1.name.toList==n.toList with
  |true=>exact S9.2 ⟨z,m,by simp[D]⟩
  |false=>
    refine VZ.2 λy hy=>?_;intro q;simp only[QY,beq_iff_eq] at q;have:=h.ag.ptr hy m q.1;subst this;rw[q.2] at D;simp at D
 have a1:(ls.map Cc).length<=1048576:=by
  rw[r.length_eq,Rg];have:=h.ag.size;omega
 have a6:Kept H3 H.size n (ls.map Cc) sel:=by
  refine⟨Z.at (Y.at r1 id) id,λq D=>?_⟩;obtain⟨z,m,e⟩:=an q D;exact⟨z.2,z.1,N.each z m,e,by rw[<-e];exact G z m⟩
 refine Dz o3 a6 a1 (λb t e=>by have:=f3 b t;omega) λv H4 o4 m4 w4=>?_
 -- sorted
 have bA:Ext H3 H4\/True:=.inr trivial;have a7:aS H4 x:=N.ar λb t hl=>m4.same b hl λq=>by
  have:=f3 b q;have:=h.ag.lt b t;omega
 have o:((ls.map Cc).filter sel).Perm ((x.of n).map λz=>z.2.p):=by
  refine(r.filter sel).trans ?_;rw[Xa];refine List.Perm.map _ (W9 (Yc ?_) (RG _ _).symm);refine Sx λz m=>?_;exact G z m
 have d:∀b,ai v b->H.size<=b:=λb t=>by have:=f3 b (w4 b t);omega
 have e4:Ext H H4:=⟨by have:=m4.size;omega,λb t _=>(m4.same b (by omega) (λq=>by have:=f3 b q;omega)).trans ((Z.same b (by omega) id).trans ((Y.same b (by omega) id).trans (e1.same b t id)))⟩;by_cases C:(x.of n)=[]
 ·-- none
  have a8:(ls.map Cc).filter sel=[]:=by
   have:=o.length_eq;rw[C] at this;exact Ra (by simpa using this)
  rw[a8] at o4;have O:=o4.n (by decide);intro w hw;subst hw;have hc:=UP (P:=QH) (ρ:=pd) {Ij with} v.a v.c (.func (.func Fq.no) #[] #[]) w;have e0:v.v=.slice v.a 0 v.c:=by
   cases v;simp only[Sl.v] at O ⊢;rw[O];rfl
  rw[e0];refine hc.mono λe w' ⟨he,bb⟩=>?_;subst bb;refine⟨_,he,⟨(),rfl,hK v _ ?_ e4 d⟩,.refl _⟩;rw[C];exact o4
 ·obtain⟨z0,bd⟩:=List.exists_mem_of_ne_nil _ C;obtain⟨B,L⟩:=wR (f:=λa:{z:FZ // z∈x.zs/\z.1.name=n}=>a.1.2.p) (l:=(ls.map Cc).filter sel) (λq D=>by
   obtain⟨z,m,e⟩:=QW.1 (o.mem_iff.1 D);exact⟨⟨z,PG.fJ.1 m⟩,e⟩)
  haveI:Inhabited {z:FZ // z∈x.zs/\z.1.name=n}:=⟨⟨z0,PG.fJ.1 bd⟩⟩
  let E:eZ {z:FZ // z∈x.zs/\z.1.name=n}:=⟨1,λa=>[dt a.1.2.p],λ_=>rfl,λx u hu=>by simp at hu;subst hu;rfl⟩
  have M:∀l:List {z:FZ // z∈x.zs/\z.1.name=n},E.all l=dW.all (l.map λa=>a.1.2.p):=by
   intro l
   induction l with
   |nil=>rfl
   |cons a l ih=>
     have q1:E.all (a::l)=dt a.1.2.p::E.all l:=rfl;have q2:dW.all ((a::l).map λa=>a.1.2.p)=dt a.1.2.p::dW.all (l.map λa=>a.1.2.p):=rfl;rw[q1,q2,ih]
  have oE:∀{A:aa} {l:List {z:FZ // z∈x.zs/\z.1.name=n}},aF E uO A v l↔aF dW uO A v (l.map λa=>a.1.2.p):=by
   intro A l;unfold aF;rw[M];exact V4
  have bh:aF E uO H4 v B:=by rw[oE,L];exact o4
  have Q:∀a:{z:FZ // z∈x.zs/\z.1.name=n},a.1.1.page<1048577:=λa=>(h.wf.az a.1.1 (by rw[h.fs];exact QW.2 ⟨a.1,a.2.1,rfl⟩)).1
  let cf:{z:FZ // z∈x.zs/\z.1.name=n}->{z:FZ // z∈x.zs/\z.1.name=n}->Int:=λa b=>(a.1.1.page:Int) - (b.1.1.page:Int)
  have k:∀a b,ltOf cf a b=decide (a.1.1.page<b.1.1.page):=by
   intro a b;show decide ((a.1.1.page:Int) - (b.1.1.page:Int)<0)=_;rw[decide_eq_decide];omega
  have hO:SWO (ltOf cf):=⟨λa=>by rw[k];simp,λa b c h1 I=>by rw[k] at*;simp at*;omega,λa b c h1 I=>by rw[k] at*;simp at*;omega⟩;have hT:∀a b,(ltOf cf) a b=false->(ltOf cf) b a=false->a=b:=by
   intro a b h1 I;rw[k] at h1 I;simp at h1 I;apply Subtype.ext;obtain⟨i,hi⟩:=QU.1 a.2.1;obtain⟨j,hj⟩:=QU.1 b.2.1;have hk:=h.wf.keys;have:=key_inj (p:=s) hk (i:=i) (j:=j) (f:=a.1.1) (g:=b.1.1) (by rw[h.fs];simp[PG.fs,hi]) (by rw[h.fs];simp[PG.fs,hj]) (by rw[a.2.2,b.2.2]) (by omega);subst this;rw[hi] at hj;exact Rc hj
  have R:B.length<4611686018427387904:=by
   have:B.length=((ls.map Cc).filter sel).length:=by rw[<-L,Rg]
   have I:=T2 sel (ls.map Cc);omega
  refine vt (ρ:=pd) (E:=E) (e:=λa=>dt a.1.2.p) Ij (λ_=>rfl) rfl hO hT EF bh R (λA mA a b=>?_) λA oA mA=>?_
  ·have S:aS A x:=a7.ar λc hc hl=>mA.same c hl λq=>by
    have:=d c q;have:=h.ag.lt c hc;omega
   exact HE (S.each a.1 a.2.1) (S.each b.1 b.2.1) (Q a) (Q b)
  ·rw[oE] at oA;have F:=RG B (λx y=>!(ltOf cf) y x);have heq:(B.mergeSort λx y=>!(ltOf cf) y x).map (λa=>a.1.2.p)=(x.of n).map λz=>z.2.p:=by
    have m:(B.mergeSort λx y=>!(ltOf cf) y x).map (λa=>a.1)=x.of n:=by
     refine TE (le:=λa b:FZ=>a.1.page<=b.1.page) (λa b T t h1 I=>?_) ?_ (x.vG n) ?_
     ·obtain⟨U,_,rfl⟩:=QW.1 T;have bl:=PG.fJ.1 t;have:=hT U ⟨b,bl⟩ (by rw[k];simp;exact I) (by rw[k];simp;exact h1);exact congrArg Subtype.val this
     ·rw[Tg];have:=Sw (le:=λx y=>!(ltOf cf) y x) (λa b c h1 I=>by rw[k] at*;simp at*;omega) (λa b=>by rw[k,k];simp;omega) B;exact this.imp λh=>by rw[k] at h;simpa using h
     ·-- the same frames
      have V:(x.of n).Nodup:=by
       have m:x.zs.Nodup:=by
        have:=h.wf.keys;rw[h.fs] at this;unfold PG.fs at this;rw[R8] at this;exact kV _ this
       unfold PG.of;exact(RG _ _).symm.nodup (m.filter _)
      have hA:(B.map λa=>a.1.2.p).Perm ((x.of n).map λz=>z.2.p):=by rw[L];exact o
      have bn:=(F.map λa=>a.1.2.p).trans hA;have inj:∀a∈(B.mergeSort λx y=>!(ltOf cf) y x).map (λa=>a.1),∀b∈x.of n,a.2.p=b.2.p->a=b:=by
       intro a T b t e;obtain⟨U,_,rfl⟩:=QW.1 T;exact h.ag.ptr U.2.1 (PG.fJ.1 t).1 e
      have W:((x.of n).map λz=>z.2.p).Nodup:=by
       unfold Wz;rw[Tg];refine XX (λ{a b} T t bs e=>bs (h.ag.ptr (PG.fJ.1 T).1 (PG.fJ.1 t).1 e)) V
      have J:(((B.mergeSort λx y=>!(ltOf cf) y x).map λa=>a.1).map λz=>z.2.p).Perm ((x.of n).map λz=>z.2.p):=by rw[R8];exact bn
      have X:((B.mergeSort λx y=>!(ltOf cf) y x).map λa=>a.1).Nodup:=kV _ (J.symm.nodup W);rw[SU X V];intro z;constructor
      ·intro m;obtain⟨U,_,rfl⟩:=QW.1 m;exact PG.fJ.2 U.2
      ·intro m;have:z.2.p∈((B.mergeSort λx y=>!(ltOf cf) y x).map λa=>a.1).map λz=>z.2.p:=J.mem_iff.2 (QW.2 ⟨z,m,rfl⟩);obtain⟨y,hy,e⟩:=QW.1 this;rw[<-inj y hy z m e];exact hy
    rw[<-m,R8];rfl
   rw[heq] at oA;refine hK v A oA ⟨by have:=e4.size;have:=mA.size;omega,λb t _=>(mA.same b (by have:=e4.size;omega) (λq=>by have:=d b q;omega)).trans (e4.same b t id)⟩ d
end
section
open Go.MapKept
theorem JK {zs:List FZ}{i:Nat}{f f':Fr}{g:uC}(a:zs[i]?=some (f,g))(hk:f'.key=f.key):qx (zs.set i (f',g))=qx zs:=by
 have h1:f'.name=f.name:=congrArg Xo hk;have b:f'.page=f.page:=congrArg XV hk;unfold qx;rw[show zs.set i (f',g)=zs.modify i (λ_=>(f',g)) from (bm (g:=λ_=>(f',g)) a).symm];exact dg _ _ _ _ _ a (by simp only[h1,b])
theorem MK {x y:PG}{H:aa}{z:FZ}{n:ByteArray}(hk:qx y.zs=qx x.zs)(a:z∈x.zs)(c:z.1.name=n)(h:aS H y):∃(i:Nat) (f:Fr),y.zs[i]?=some (f,(⟨z.2.p,(y.zs.getD i z).2.b⟩:uC))/\f.name=n/\f.page=z.1.page:=by
 have h1:(jI z.1.name (z.1.page:Int),dt z.2.p)∈qx y.zs:=by rw[hk];exact QW.2 ⟨z,a,rfl⟩
 obtain⟨u,hu,e⟩:=QW.1 h1;simp only[RJ] at e;have d:=mP e.1;have g:=ub e.2;obtain⟨i,hi⟩:=QU.1 hu;refine⟨i,u.1,?_,d.1.trans c,by omega⟩;have:y.zs.getD i z=u:=by simp[RY,hi]
 rw[hi,this,<-g]
theorem Pl.iV (s:Pl)(n:ByteArray):(s.bE n).length<=s.fs.length:=by
 rw[Pl.gQ];rw[List.length_mergeSort,Rg];exact T2 _ _
theorem Hy {F:Nat->Prop}{H:aa}{p dp:Nat}{s:Pl}{n:ByteArray}{K:Int->aa->Prop}(hg:Gl H)(h:aA F H p dp s)(X:s.d.aH<68719470000)
  (j:∀F' H',aA F' H' p dp (s.flush n).1->Step F F' H H'->K (s.flush n).2 H'):Kv.sp (aK p) n H K:=by
 have Y:=h;obtain⟨x,D,hd,hF⟩:=h;refine Kv.of ?_;unfold Kv.vc;simp only[aw];refine jf hd.aj ?_;unfold Pl.flush at j;refine ah (λhw=>?_) (λhw=>?_)
 ·have v:s.wrong≠0:=by simpa using hw
  rw[if_pos v] at j;exact j F H Y (.refl _ _)
 have v:¬s.wrong≠0:=by simpa using hw
 rw[if_neg v] at j;refine hd.aj.head.ld (c:=aB) (i:=0) (x:=aK dp) rfl ?_;refine uU hd.cD ?_;have fin:∀(e:Int) (x':PG) (m:Nat->Prop) (H1:aa) (t:Pl),bQ x' m H1 p dp t->Step (λb=>D b\/x.all p b) (λb=>m b\/x'.all p b) H H1->(∀F' H',aA F' H' p dp (Pl.out (t,e)).1->Step F F' H H'->K (Pl.out (t,e)).2 H')->
   wJ.sp (aK p) e H1 λr o=>K r o:=by
  intro e x' m H1 t h1 S1 hk;refine w9 (hd.gl hg S1.mod) h1 λo M u=>?_;obtain⟨F',Z,q2⟩:=M.out (x:=x) (D:=D) (F:=F) (H:=H) hF (S1.trans u);exact hk F' o Z q2
 refine ah (λhz=>?_) (λhz=>?_)
 ·have w:(s.d.len n).2≠0:=by simpa using hz
  rw[if_pos w] at j;exact fin _ x D H s hd (.refl _ _) j
 have w:¬(s.d.len n).2≠0:=by simpa using hz
 rw[if_neg w] at j;refine Lq hd.aj λsl H1 o1 W f1=>?_;have N:=hd.ext W;have B:=o1.n (by decide);have O:=PG.Af hd.aj.fs n;have bh:(s.bE n).length<=4096:=by
  have:=s.iV n;have:=hd.aj.wf.len;have:=hd.aj.wf.most;omega
 have hsl:sl.n=(s.bE n).length:=by rw[B,<-O,Rg,Rg]
 have bd:(x.of n).length=(s.bE n).length:=by rw[<-O,Rg]
 refine av (s.bE n).length (λk z A=>z=(k:Int)/\∃y m t,bQ y m A p dp t/\Step (λb=>D b\/x.all p b) (λb=>m b\/y.all p b) H1 A/\qx y.zs=qx x.zs/\aF dW uO A sl ((x.of n).map λz=>z.2.p)/\t.d.aH<=s.d.aH+k/\Pl.bq n (s.bE n) s=Pl.bq n ((s.bE n).drop k) t) ⟨rfl,x,D,s,N,.refl _ _,rfl,o1,QN _,rfl⟩ ?_;rintro k _ A next hk ⟨rfl,y,m,t,d,L,C,oA,bl,heq⟩ l
 have P:Gl A:=N.gl (hg.mod W id) L.mod;refine ah (λQ=>?_) (λQ=>?_)
 ·have E:k<(s.bE n).length:=by rw[hsl] at Q;simpa using Q
  have G:k<(x.of n).length:=by omega
  have af:(x.of n)[k]∈x.of n:=Re G;obtain⟨al,an⟩:=PG.fJ.1 af;obtain⟨i,f,hi,a1,a6⟩:=MK C al an d.aj.ag;obtain⟨g,R⟩:∃g:uC,g=⟨(x.of n)[k].2.p,(y.zs.getD i (x.of n)[k]).2.b⟩:=⟨_,rfl⟩;rw[<-R] at hi;have a7:g.p=(x.of n)[k].2.p:=by rw[R]
  have S:t.fs[i]?=some f:=by rw[d.aj.fs];simp[PG.fs,hi]
  have a8:(s.bE n)[k]=f.page:=by
   have:((x.of n).map λz=>z.1.page)[k]'(by simpa using G)=(s.bE n)[k]:=by congr 1
   rw[<-this,Vl,a6]
  have I:t.find n ((s.bE n)[k]:Int)=some i:=by rw[a8,<-a1];exact Pl.find_eq d.aj.wf S
  have a:Pl.bq n ((s.bE n).drop k) t=if f.dirty then (if (t.put i).2=0 then Pl.bq n ((s.bE n).drop (k+1)) (t.put i).1 else t.put i) else Pl.bq n ((s.bE n).drop (k+1)) t:=by
   rw[Rw E]
   conv=>lhs;unfold Pl.bq
   rw[I];simp only[Pl.fZ S]
  have hA:=d.aj.ag.each _ (QL hi);refine tq oA (i:=k) (q:=(x.of n)[k].2.p) (by simp[G]) rfl λad ha=>?_;rw[<-a7];simp only[aw];refine hA.row.ld (c:=aC) (i:=4) (x:=f.dirty) rfl ?_;have T:QI.wrap ((k:Int)+1)=((k+1:Nat):Int):=aD k (by omega);cases U:f.dirty with
  |false=>
    rw[U,if_neg (by simp)] at a;exact aR rfl (l E _ _ ⟨T,y,m,t,d,L,C,oA,by omega,heq.trans a⟩)
  |true=>
    rw[U,if_pos rfl] at a;refine aE rfl ?_;refine Db P d hi (by omega) (λJ V o M u=>?_) (λhe V o M u=>?_)
    ·rw[if_neg J] at a;refine aR (by simpa using J) ?_;have e0:=heq.trans a;rw[e0,if_pos J] at j;exact fin _ y V o _ M ((L.trans u).ahead W) j
    ·rw[if_pos he] at a;refine aE rfl ?_;refine l E _ _ ⟨T,_,V,(t.put i).1,M,L.trans u,?_,?_,?_,heq.trans a⟩
     ·show qx (y.zs.set i (f.clean,g))=_;rw[JK (f':=f.clean) hi rfl];exact C
     ·refine oA.ar λb hb hl=>u.mod.same b hl ?_;rintro q;rcases L.own b q with r|r
      ·have:=hd.lt b r;have:=f1 b hb;omega
      ·have:=o1.lt b hb;omega
     ·have:=t.nc i;omega
 ·have bb:k=(s.bE n).length:=by rw[hsl] at Q;simp at Q;omega
  have e0:Pl.bq n (s.bE n) s=(t,0):=by rw[heq,bb,RL (QN _)];rfl
  rw[e0,if_neg (by simp)] at j;simp only at j;refine d.aj.head.ld (c:=aB) (i:=0) (x:=aK dp) rfl ?_;refine Jc d.cD λV o a2 u=>?_;obtain⟨Z,q2⟩:=d.ks P a2 u;exact fin _ y V o _ Z ((L.trans q2).ahead W) j
end
theorem eJ {α β:Type}(f:α->β)(u:α->α)(hu:∀x,f (u x)=f x):∀(l:List α) (i:Nat),(l.modify i u).map f=l.map f
 |[],i=>by simp
 |a::l,0=>by simp[hu]
 |a::l,i+1=>by simp[eJ f u hu l i]
theorem Pl.DV {p q:Pl}(h:q.fs.map Fr.key=p.fs.map Fr.key)(n:ByteArray)(k:Int):q.find n k=p.find n k:=by
 have e:∀r:Pl,r.find n k=(r.fs.map Fr.key).findIdx? λx=>x.1.toList==n.toList&&decide ((x.2:Int)=k):=by
  intro r;rw[List.findIdx?_map];rfl
 rw[e,e,h]
theorem Pl.ur (p:Pl)(i:Nat):(p.put i).1.fs.map Fr.key=p.fs.map Fr.key:=by
 unfold Pl.put;split
 ·show (p.fs.modify i Fr.clean).map Fr.key=_;exact eJ Fr.key Fr.clean (λ_=>rfl) _ _
 ·rfl
theorem Pl.jx {n:ByteArray}:∀(l:List Nat) (p:Pl),Pl.bq n (l.filter λk:Nat=>(p.find n k).isSome) p=Pl.bq n l p
 |[],p=>rfl
 |k::l,p=>by
   rw[S0];cases a:p.find n k with
   |none=>
     rw[if_neg (by simp),Pl.jx l p]
     conv=>rhs;unfold Pl.bq
     rw[a]
   |some i=>
     rw[show (some i).isSome=true from rfl,if_pos rfl]
     conv=>lhs;unfold Pl.bq
     conv=>rhs;unfold Pl.bq
     rw[a];simp only;have e:(l.filter λk:Nat=>(p.find n k).isSome)=l.filter λk:Nat=>((p.put i).1.find n k).isSome:=Sx λj _=>by rw[Pl.DV (p.ur i)]
     split
     ·split
      ·rw[e];exact Pl.jx l _
      ·rfl
     ·exact Pl.jx l p
theorem Pl.vz {p:Pl}(hw:p.WF)(c:p.Fit){n:ByteArray}(hl:(p.d.len n).2=0):p.bE n=(RI (p.d.len n).1).filter λk:Nat=>(p.find n k).isSome:=by
 refine oF ?_ ?_ ?_
 ·rw[SU]
  ·intro k;rw[Pl.gQ];rw[YM,QW,Rp,List.mem_range];constructor
   ·rintro⟨f,d,rfl⟩;rw[Rp] at d;have j:f.name=n:=ig (by simpa using d.2);obtain⟨i,hi⟩:=QU.1 d.1;refine⟨?_,?_⟩
    ·rw[Dk.yY hl,<-j];exact c f d.1
    ·rw[<-j,Pl.find_eq hw hi];rfl
   ·rintro⟨_,l⟩;obtain⟨i,hi⟩:=Option.isSome_iff_exists.1 l;obtain⟨f,q,r,u⟩:=Pl.nK hi;exact⟨f,Rp.2 ⟨QL q,by rw[r];simp⟩,by omega⟩
  ·rw[Pl.gQ];refine(RG _ _).symm.nodup ?_;have h1:((p.fs.filter λf=>f.name.toList==n.toList).map Fr.key).Nodup:=(Uf.map Fr.key).nodup hw.keys;unfold Wz at h1 ⊢;rw[Tg] at h1 ⊢;refine XX (λ{a b} m o g e=>g ?_) h1;rw[Rp] at m o;have s:a.name=n:=ig (by simpa using m.2);have t:b.name=n:=ig (by simpa using o.2);unfold Fr.key;rw[s,t,e]
  ·exact List.nodup_range.sublist Uf
 ·rw[Pl.gQ];have:=Sw (le:=λa b:Nat=>decide (a<=b)) (λ_ _ _ h1 l=>by simp at*;omega) (λ_ _=>by simp;omega) ((p.fs.filter λf=>f.name.toList==n.toList).map (·.page));exact this.imp λh=>by simpa using h
 ·exact(List.pairwise_le_range).sublist Uf
theorem Pl.w8 {p:Pl}(hw:p.WF)(a:p.Fit){n:ByteArray}(hl:(p.d.len n).2=0):Pl.bq n (p.bE n) p=Pl.bq n (RI (p.d.len n).1) p:=by
 rw[Pl.vz hw a hl,Pl.jx]
theorem Pl.eT (p:Pl)(e:Int):(p.met e).d=p.d/\(p.met e).fs=p.fs/\(p.met e).next=p.next/\(p.met e).most=p.most:=by
 unfold Pl.met;split<;>exact⟨rfl,rfl,rfl,rfl⟩
theorem Pl.GH (p:Pl)(n:ByteArray)(k:Int):(p.load n k).1=p\/(p.load n k).1=p.room.1:=by
 unfold Pl.load;split
 ·exact .inl rfl
 ·split
  ·exact .inl rfl
  ·split
   ·exact .inr rfl
   ·split
    ·exact .inr rfl
    ·split<;>exact .inr rfl
theorem Pl.uM (p:Pl)(n:ByteArray)(k:Int):(p.bF n k).1.d.aH<=p.d.aH+1:=by
 unfold Pl.bF;split
 ·exact RB _
 ·split
  ·exact RB _
  ·have h:(p.load n k).1.d.aH<=p.d.aH+1:=by
    rcases p.GH n k with e|e
    ·rw[e];exact RB _
    ·rw[e];exact p.ko
   split
   ·rename_i q f e he;rw[he] at h;exact h
   ·rename_i q e he;rw[he] at h;show (q.met e).d.aH<=_;rw[(q.eT e).1];exact h
theorem Pl.BH (p:Pl)(n:ByteArray):(p.fresh n).1.d.aH<=p.d.aH+2:=by
 have a:=p.ko;have hw:=p.room.1.d.uW n (p.d.len n).1 (cT 0 []);unfold Pl.fresh;split
 ·show p.d.aH<=_;omega
 ·split
  ·show (p.met _).d.aH<=_;rw[(p.eT _).1];omega
  ·split
   ·show (p.room.1.met _).d.aH<=_;rw[(p.room.1.eT _).1];omega
   ·split
    ·show ((p.room.1.bJ _).met _).d.aH<=_;rw[((p.room.1.bJ _).eT _).1];show (p.room.1.d.write _ _ _).1.aH<=_;omega
    ·show (p.room.1.d.write _ _ _).1.aH<=_;omega
theorem Pl.jG {n:ByteArray}:∀(l:List Nat) (p:Pl),(Pl.bq n l p).1.d.aH<=p.d.aH+l.length
 |[],p=>QN _
 |k::l,p=>by
   unfold Pl.bq;have a:=λi=>p.nc i;split
   ·rename_i i hi;have:=a i;split
    ·split
     ·have:=Pl.jG (n:=n) l (p.put i).1;simp only[Rr];omega
     ·simp only[Rr];omega
    ·have:=Pl.jG (n:=n) l p;simp only[Rr];omega
   ·have:=Pl.jG (n:=n) l p;simp only[Rr];omega
theorem Pl.yX (r:Pl×Int):(Pl.out r).1.d=r.1.d:=(r.1.eT r.2).1
theorem Pl.AY (p:Pl)(n:ByteArray):(p.flush n).1.d.aH<=p.d.aH+p.fs.length:=by
 have h1:=Pl.jG (n:=n) (p.bE n) p;have a:=p.iV n;have b:=(Pl.bq n (p.bE n) p).1.d.D9 n;unfold Pl.flush;split
 ·show p.d.aH<=_;omega
 ·split
  ·rw[Pl.yX];show p.d.aH<=_;omega
  ·split
   ·rw[Pl.yX];omega
   ·rw[Pl.yX];show (Dk.sync _ _).1.aH<=_;omega
theorem Pl.G8 (p:Pl)(h:Int)(k:UInt8)(b:List UInt8):(p.set h k b).1.d=p.d:=by
 unfold Pl.set;split
 ·rfl
 ·split
  ·split<;>rfl
  ·rfl
theorem Pl.Dg (p:Pl)(h:Int):(p.bk h).1.d=p.d:=by
 unfold Pl.bk;split
 ·rfl
 ·split<;>rfl
theorem Pl.BJ (p:Pl)(n:ByteArray):(p.c9 n).1.d.aH<=p.d.aH:=by
 have:=p.d.zu n;unfold Pl.c9;split
 ·exact QN _
 ·split
  ·rw[Pl.yX];exact QN _
  ·split
   ·exact QN _
   ·rw[Pl.yX];exact this
theorem Pl.jC {n:ByteArray}:∀(l:List Nat) (p:Pl),(Pl.bq n l p).1.next=p.next/\(Pl.bq n l p).1.tick=p.tick
 |[],p=>⟨rfl,rfl⟩
 |k::l,p=>by
   unfold Pl.bq;split
   ·rename_i i hi;have:=p.tx i;split
    ·split
     ·have h:=Pl.jC (n:=n) l (p.put i).1;exact⟨h.1.trans this.2.1,h.2.trans this.2.2.1⟩
     ·exact⟨this.2.1,this.2.2.1⟩
    ·exact Pl.jC l p
   ·exact Pl.jC l p
theorem Pl.uN (p:Pl)(n:ByteArray):(p.flush n).1.next=p.next:=by
 have h1:=(Pl.jC (n:=n) (p.bE n) p).1;unfold Pl.flush;split
 ·rfl
 ·split
  ·exact(p.eT _).2.2.1
  ·split
   ·exact((Pl.bq n (p.bE n) p).1.eT _).2.2.1.trans h1
   ·exact(((Pl.bq n (p.bE n) p).1.bJ _).eT _).2.2.1.trans h1
theorem Dk.Bw {s t:Dk}{i:Nat}{f:Fl}{g:Fl->Fl}(b:s.files[i]?=some f)(c:t.files=s.files.modify i g)(d:(g f).name=f.name)(n:ByteArray):t.idx n=s.idx n:=by
 unfold Dk.idx;rw[c];have:∀(l:List Fl) (j:Nat),l[j]?=some f->(l.modify j g).findIdx? (λf=>f.name.toList==n.toList)=l.findIdx? (λf=>f.name.toList==n.toList):=by
  intro l
  induction l with
  |nil=>intro j h;simp at h
  |cons a l e=>
    intro j h
    match j with
    |0=>
      simp at h;subst h;simp only[List.modify_zero_cons,VJ,d]
    |j+1=>
      simp only[RV] at h;simp only[List.modify_succ_cons,VJ,e j h]
 exact this s.files i b
theorem Dk.Hk {s:Dk}{n:ByteArray}{k:Int}{b:List UInt8}(h:(s.write n k b).2=0):0<=k/\k.toNat<(s.write n k b).1.size n:=by
 unfold Dk.write at h ⊢;by_cases hd:s.down=true
 ·rw[if_pos hd] at h;cases h
 rw[if_neg hd] at h ⊢;by_cases d:b.length=512
 ·rw[dif_pos d] at h ⊢;cases hi:s.idx n with
  |none=>rw[hi] at h;cases h
  |some i=>
    rw[hi] at h;simp only at h ⊢;by_cases hk:k<0\/k>(s.file i).az.length
    ·rw[if_pos hk] at h;cases h
    rw[if_neg hk] at h ⊢;by_cases l:k=(s.file i).az.length/\s.used>=s.quota
    ·rw[if_pos l] at h;cases h
    rw[if_neg l] at h ⊢;unfold Dk.step at h ⊢;by_cases e:s.change.2=0
    ·rw[if_pos e];refine⟨by omega,?_⟩;obtain⟨f,o,_⟩:=Dk.cw hi;have a:s.change.1.files[i]?=some f:=by rw[s.bu];exact o
     have j:s.change.1.idx n=some i:=by unfold Dk.idx at hi ⊢;rw[s.bu];exact hi
     obtain⟨w,hw⟩:∃w:Wr,w=⟨s.change.1.next,k.toNat,⟨b,d⟩⟩:=⟨_,rfl⟩;simp only[<-hw];obtain⟨t,m⟩:∃t:Dk,t=(s.change.1.gI i w).jw (max s.change.1.most (s.change.1.gI i w).used):=⟨_,rfl⟩;rw[<-m];have c:t.files=s.change.1.files.modify i λf=>{f with log:=f.log++[w]}:=by rw[m];rfl
     have p:=Dk.Bw (g:=λf=>{f with log:=f.log++[w]}) a c rfl n;have q:t.files[i]?=some {f with log:=f.log++[w]}:=by rw[c];exact eM a
     unfold Dk.size;rw[p,j];simp only;rw[Dk.dI q,Fl.ug,di,hw];show k.toNat<max _ (k.toNat+1);omega
    ·rw[if_neg e] at h;exact absurd h e
 ·rw[dif_neg d] at h;cases h
theorem Dk.J2 {s:Dk}{n:ByteArray}{k:Int}(h:(s.read n k).2=0):0<=k/\k.toNat<s.size n:=by
 unfold Dk.read Dk.open at h;unfold Dk.size;by_cases hd:s.down=true
 ·rw[if_pos hd] at h;cases h
 rw[if_neg hd] at h;cases hi:s.idx n with
 |none=>rw[hi] at h;cases h
 |some i=>
   rw[hi] at h;simp only at h ⊢;by_cases hk:k<0
   ·rw[if_pos hk] at h;cases h
   rw[if_neg hk] at h;refine⟨by omega,?_⟩;rcases RA k.toNat (s.file i).az.length with q|q
   ·exact q
   ·rw[Th q] at h;cases h
theorem GP {l r:List Fr}(h:l.map Fr.key=r.map Fr.key):∀f∈l,∃f'∈r,f'.key=f.key:=by
 intro f a;have:f.key∈r.map Fr.key:=by rw[<-h];exact List.mem_map_of_mem a
 obtain⟨f',h1,b⟩:=QW.1 this;exact⟨f',h1,b⟩
theorem Pl.Fit.keys {s t:Pl}(h:s.Fit)(hd:s.d.fP t.d)(hk:t.fs.map Fr.key=s.fs.map Fr.key):t.Fit:=h.grow hd (GP hk)
theorem Pl.Fit.met {s:Pl}(h:s.Fit)(e:Int):(s.met e).Fit:=by
 have:=s.eT e;intro f a;rw[this.2.1] at a;rw[this.1];exact h f a
theorem Pl.Fit.room {s:Pl}(h:s.Fit):s.room.1.Fit:=h.grow s.BB s.wE
theorem Pl.Fit.iG {s:Pl}(h:s.Fit)(i:Nat):(s.iG i).Fit:=h.keys (.refl _) (eJ Fr.key (Fr.bF s.next) (λ_=>rfl) _ _)
theorem Pl.Fit.take {s:Pl}{f:Fr}(h:s.Fit)(a:f.page<s.d.size f.name):(s.take f).Fit:=by
 refine Pl.Fit.iG ?_ s.fs.length;intro g b;rcases QQ.1 (show g∈s.fs++[f] from b) with q|q
 ·exact h g q
 ·simp at q;subst q;exact a
theorem Pl.ph (s:Pl)(n:ByteArray)(k:Int):(∃e,s.load n k=(s,none,e))\/(∃e,s.load n k=(s.room.1,none,e))\/∃f,s.load n k=(s.room.1,some f,0)/\f.name=n/\(f.page:Int)=k/\(s.room.1.d.read n k).2=0:=by
 unfold Pl.load;split
 ·exact .inl ⟨_,rfl⟩
 ·split
  ·exact .inl ⟨_,rfl⟩
  ·rename_i hk;split
   ·exact .inr (.inl ⟨_,rfl⟩)
   ·split
    ·exact .inr (.inl ⟨_,rfl⟩)
    ·rename_i a;split
     ·exact .inr (.inl ⟨_,rfl⟩)
     ·exact .inr (.inr ⟨_,rfl,rfl,by show ((k.toNat:Nat):Int)=k;omega,by simpa using a⟩)
theorem Pl.Fit.bF {s:Pl}(h:s.Fit)(n:ByteArray)(k:Int):(s.bF n k).1.Fit:=by
 unfold Pl.bF;split
 ·exact h
 ·split
  ·exact h.iG _
  ·rcases s.ph n k with ⟨e,he⟩|⟨e,he⟩|⟨f,he,h1,b,a⟩
   ·rw[he];exact h.met e
   ·rw[he];exact h.room.met e
   ·rw[he];refine h.room.take ?_;have:=(Dk.J2 a).2;rw[h1];omega
theorem Pl.Fit.fresh {s:Pl}(h:s.Fit)(n:ByteArray):(s.fresh n).1.Fit:=by
 unfold Pl.fresh;split
 ·exact h
 ·split
  ·exact h.met _
  ·split
   ·exact h.room.met _
   ·have a:(s.room.1.bJ (s.room.1.d.write n (s.d.len n).1 (cT 0 [])).1).Fit:=h.room.keys (s.room.1.d.su _ _ _) rfl;split
    ·exact a.met _
    ·rename_i hw;refine a.take ?_;exact(Dk.Hk (show (s.room.1.d.write n (s.d.len n).1 (cT 0 [])).2=0 by simpa using hw)).2
theorem Pl.Fit.set {s:Pl}(h:s.Fit)(c:Int)(k:UInt8)(b:List UInt8):(s.set c k b).1.Fit:=by
 unfold Pl.set;split
 ·exact h
 ·split
  ·split
   ·exact h
   ·exact h.keys (.refl _) (eJ Fr.key (Fr.set k b) (λ_=>rfl) _ _)
  ·exact h
theorem Pl.Fit.bk {s:Pl}(h:s.Fit)(c:Int):(s.bk c).1.Fit:=by
 unfold Pl.bk;split
 ·exact h
 ·split
  ·exact h.keys (.refl _) (eJ Fr.key (Fr.bk c _) (λ_=>rfl) _ _)
  ·exact h
theorem Pl.Fit.put {s:Pl}(h:s.Fit)(i:Nat):(s.put i).1.Fit:=h.keys (s.qK i) (s.ur i)
theorem Pl.Fit.bq {n:ByteArray}:∀(l:List Nat) {s:Pl},s.Fit->(Pl.bq n l s).1.Fit
 |[],_,h=>h
 |k::l,s,h=>by
   unfold Pl.bq;split
   ·split
    ·split
     ·exact Pl.Fit.bq l (h.put _)
     ·exact h.put _
    ·exact Pl.Fit.bq l h
   ·exact Pl.Fit.bq l h
theorem Pl.Fit.out {r:Pl×Int}(h:r.1.Fit):(Pl.out r).1.Fit:=h.met _
theorem Pl.Fit.flush {s:Pl}(h:s.Fit)(n:ByteArray):(s.flush n).1.Fit:=by
 have h1:=Pl.Fit.bq (n:=n) (s.bE n) h;unfold Pl.flush;split
 ·exact h
 ·split
  ·exact Pl.Fit.out h
  ·split
   ·exact Pl.Fit.out h1
   ·refine Pl.Fit.out ?_;exact h1.keys (Dk.Bs _ _) rfl
theorem yC {α:Type}{q:α->Bool}{d:α}:∀l:List α,(l.findIdx? q).map (λi=>l.getD i d)=l.find? q
 |[]=>rfl
 |a::l=>by
   rw[VJ,Wt];cases h:q a with
   |true=>simp
   |false=>
     simp only[Bool.false_eq_true,if_false,Option.map_map];rw[<-yC (d:=d) l];congr 1
theorem tZ {α:Type}{q:α->Bool}:∀(l:List α) (i:Nat) (x:α),l[i]?=some x->q x=false->(l.eraseIdx i).find? q=l.find? q
 |[],i,x,h,_=>by simp at h
 |a::l,0,x,h,b=>by simp at h;subst h;simp[b]
 |a::l,i+1,x,h,b=>by
   rw[WA,Wt,Wt,tZ l i x (by simpa using h) b]
theorem Dk.vW (s:Dk)(n:ByteArray):s.size n=match s.files.find? (λf=>f.name.toList==n.toList) with|some f=>f.az.length|none=>0:=by
 unfold Dk.size;rw[<-yC (d:=⟨Tn,[],[]⟩) s.files];show (match s.idx n with|some i=>(s.file i).az.length|none=>0)=_;unfold Dk.idx;cases s.files.findIdx? λf=>f.name.toList==n.toList<;>rfl
theorem Dk.DO (s:Dk){n m:ByteArray}(h:m≠n):(s.drop n).size m=s.size m:=by
 unfold Dk.drop;cases hi:s.idx n with
 |none=>rfl
 |some i=>
   obtain⟨f,b,a⟩:=Dk.cw hi;rw[Dk.vW,Dk.vW];simp only;rw[tZ s.files i f b (by rw[a,beq_eq_false_iff_ne];exact λe=>h (ig e).symm)]
theorem Dk.zj (s:Dk){n m:ByteArray}(h:m≠n):s.size m<=(s.remove n).1.size m:=by
 unfold Dk.remove;split
 ·exact QN _
 ·split
  ·exact QN _
  ·unfold Dk.step;split
   ·rw[Dk.DO _ h];exact s.iJ m
   ·exact s.iJ m
theorem Pl.Fit.c9 {s:Pl}(h:s.Fit)(n:ByteArray):(s.c9 n).1.Fit:=by
 unfold Pl.c9;split
 ·exact h
 ·split
  ·exact Pl.Fit.out h
  ·split
   ·exact h
   ·refine Pl.Fit.out ?_;intro f c;have a:f∈s.fs.filter λf=>!(f.name.toList==n.toList):=c;rw[Rp] at a;have b:f.name≠n:=λe=>by have:=a.2;rw[e] at this;simp at this
    exact Sk (h f a.1) (s.d.zj b)
theorem Pl.Fit.bJ {s:Pl}(h:s.Fit){d:Dk}(hd:s.d.fP d):(s.bJ d).Fit:=h.keys hd rfl
theorem Gr {x:Int}(a:0<=x)(h1:x<1099511627776):fT (x+1)=x+1:=by unfold fT;exact wrap64 (by omega) (by omega)
theorem Pl.uv (s:Pl)(i:Nat)(a:0<=s.next)(h1:s.next<1099511627776):(s.iG i).next=s.next+1:=Gr a h1
theorem Pl.nI (s:Pl)(f:Fr)(a:0<=s.next)(h1:s.next<1099511627776):(s.take f).next=s.next+1:=Gr a h1
theorem Pl.mF {s:Pl}{n:ByteArray}{k:Int}(a:0<=s.next)(h1:s.next<1099511627776):(s.bF n k).1.next<=s.next+1:=by
 unfold Pl.bF;split
 ·show s.next<=_;omega
 ·split
  ·rw[Pl.uv s _ a h1];omega
  ·rcases s.ph n k with ⟨e,he⟩|⟨e,he⟩|⟨f,he,_⟩
   ·rw[he];show (s.met e).next<=_;rw[(s.eT e).2.2.1];omega
   ·rw[he];show (s.room.1.met e).next<=_;rw[(s.room.1.eT e).2.2.1,s.cI.2.1];omega
   ·rw[he];show (s.room.1.take f).next<=_;rw[Pl.nI _ _ (by rw[s.cI.2.1];exact a) (by rw[s.cI.2.1];exact h1),s.cI.2.1];omega
theorem Pl.oP {s:Pl}{n:ByteArray}(b:0<=s.next)(h1:s.next<1099511627776):(s.fresh n).1.next<=s.next+1:=by
 have a:=s.cI.2.1;unfold Pl.fresh;split
 ·show s.next<=_;omega
 ·split
  ·show (s.met _).next<=_;rw[(s.eT _).2.2.1];omega
  ·split
   ·show (s.room.1.met _).next<=_;rw[(s.room.1.eT _).2.2.1,a];omega
   ·split
    ·show ((s.room.1.bJ _).met _).next<=_
     rw[((s.room.1.bJ _).eT _).2.2.1];show s.room.1.next<=_;rw[a];omega
    ·show ((s.room.1.bJ _).take _).next<=_
     rw[Pl.nI _ _ (by show 0<=s.room.1.next;rw[a];exact b) (by show s.room.1.next<_;rw[a];exact h1)];show s.room.1.next+1<=_;rw[a];omega
theorem Pl.j5 (s:Pl)(c:Int)(k:UInt8)(b:List UInt8):(s.set c k b).1.next=s.next:=by
 unfold Pl.set;split
 ·rfl
 ·split
  ·split<;>rfl
  ·rfl
theorem Pl.uE (s:Pl)(c:Int):(s.bk c).1.next=s.next:=by
 unfold Pl.bk;split
 ·rfl
 ·split<;>rfl
theorem Pl.tE (s:Pl)(n:ByteArray):(s.c9 n).1.next=s.next:=by
 unfold Pl.c9;split
 ·rfl
 ·split
  ·exact(s.eT _).2.2.1
  ·split
   ·rfl
   ·exact(((s.forget n).bJ _).eT _).2.2.1
def Pl.leave (r:Pl×Int)(h:Int):Pl×Int:=if r.2=0 then r.1.bk h else r
def Pl.more (p:Pl)(n:ByteArray)(k:UInt8)(b:List UInt8):Pl×Int:=
 if (p.fresh n).2.2.2≠0 then ((p.fresh n).1,(p.fresh n).2.2.2)
 else Pl.leave (if k=0 then ((p.fresh n).1,0) else (p.fresh n).1.set (p.fresh n).2.1 k b) (p.fresh n).2.1
def Pl.look (p:Pl)(n:ByteArray)(g:Int):Pl×UInt8×List UInt8×Int:=
 if (p.bF n g).2.2≠0 then ((p.bF n g).1,0,[],(p.bF n g).2.2)
 else if ((p.bF n g).1.get (p.bF n g).2.1).2.2≠0 then ((p.bF n g).1,(p.bF n g).1.get (p.bF n g).2.1)
 else (((p.bF n g).1.bk (p.bF n g).2.1).1,((p.bF n g).1.get (p.bF n g).2.1).1,((p.bF n g).1.get (p.bF n g).2.1).2.1,((p.bF n g).1.bk (p.bF n g).2.1).2)
section
variable {p:Pl}{n:ByteArray}{N q:Nat}{T:Nat->UInt8×List UInt8}
end
theorem sg {a b:Sl}{c lb:List Int}{H:aa}{K:Bool->aa->Prop}(s:Ints .u64 H a c)(t:Ints .u64 H b lb)(hlen:c.length<4611686018427387904)(g:K (decide (c=lb)) H):FE.sp a b H K:=by
 refine FE.of ?_;unfold FE.vc;have j:=s.len;have l:=t.len;refine ah (λh=>?_) (λh=>?_)
 ·have h1:c≠lb:=by intro e;subst e;simp[j,l] at h
  simpa[h1] using g
 ·have x:(a.n:Int)=(b.n:Int):=by simpa using h
  have hl:c.length=lb.length:=by omega
  refine⟨Nat,λk i H'=>i=(k:Int)/\k<=c.length/\H'=H/\c.take k=lb.take k,λk=>c.length - k,⟨0,rfl,Q5 _,rfl,by simp⟩,?_⟩;rintro k i H' ⟨rfl,hk,rfl,m⟩;refine ah (λh1=>?_) (λh1=>?_)
  ·have o:(k:Int)<(a.n:Int):=by simpa using h1
   have d:k<c.length:=by omega
   refine s.ld (by omega) (by omega) λu y=>?_;refine t.ld (by omega) (by omega) λv z=>?_;simp only[QP];refine ah (λf=>?_) (λf=>?_)
   ·have w:c≠lb:=by intro e;subst e;simp at f
    simpa[w] using g
   ·refine⟨k+1,⟨by rw[wrap64 (by omega) (by omega)];omega,by omega,by trivial,?_⟩,by omega⟩;rw[QO d,QO (by omega:k<lb.length),m];have:c[k]'d=lb[k]'(by omega):=by simpa[RY,QK d,QK (by omega:k<lb.length)] using f
    rw[this]
  ·have o:¬((k:Int)<(a.n:Int)):=by simpa using h1
   have r:k=c.length:=by omega
   subst r;have f:c=lb:=by rw[QS (QN _),QS (by omega)] at m;exact m
   simpa[f] using g
theorem pj {a b:Sl}{c lb:List Int}{H:aa}{K:Bool->aa->Prop}(d:Ints .u64 H a c)(e:Ints .u64 H b lb)(hlen:c.length<1099511627776)(f:K (decide (c=lb)) H):FE.sp a b H K:=sg d e (by omega) f
theorem jR:El QH dv fM 8 (.int .u64 0):=CL (zb:=tM .u64) ru rfl (by kernel_rfl)
theorem M3:El QH eK fU 1 (.int .u8 0):=CL (zb:=tM .u8) ru rfl (by kernel_rfl)
theorem uS:El QH dY dv 24 (.slice none 0 0):=CL (zb:=FL) Ge rfl (by kernel_rfl)
def aX:List Int->List Int->Int
 |[],[]=>0
 |[],_::_=>-1
 |_::_,[]=>1
 |x::a,y::b=>if x<y then -1 else if y<x then 1 else aX a b
theorem cr:∀{a b:List Int},aX a b=0↔a=b
 |[],[]=>by simp[aX]
 |[],_::_=>by simp[aX]
 |_::_,[]=>by simp[aX]
 |x::a,y::b=>by
   unfold aX;have c:=@cr a b;split
   ·simp;intro h;omega
   ·split
    ·simp;intro h;omega
    ·rw[c];simp;intro;omega
theorem bZ:∀(a b:List Int),aX b a=- aX a b
 |[],[]=>by simp[aX]
 |[],_::_=>by simp[aX]
 |_::_,[]=>by simp[aX]
 |x::a,y::b=>by
   have c:=bZ a b;simp only[aX];split
   ·rw[if_neg (by omega)];try rfl
   ·split
    ·rfl
    ·exact c
theorem BF (a b:List Int):aX a b=-1\/aX a b=0\/aX a b=1:=by
 induction a generalizing b with
 |nil=>cases b<;>simp[aX]
 |cons x a c=>cases b with
   |nil=>simp[aX]
   |cons y b=>
     simp only[aX];split
     ·simp
     ·split
      ·simp
      ·exact c b
theorem drop_cons {l:List Int}{k:Nat}(h:k<l.length):l.drop k=l.getD k 0::l.drop (k+1):=by
 rw[Rw h];simp[RY,QK h]
theorem kj {a b:Sl}{c lb:List Int}{H:aa}{K:Int->aa->Prop}(u:Ints .u64 H a c)(v:Ints .u64 H b lb)(hlen:c.length<1099511627776)(d:K (aX c lb) H):BV.sp a b H K:=by
 refine BV.of ?_;unfold BV.vc;have x:=u.len;have z:=v.len;refine av c.length (λk i H'=>i=(k:Int)/\k<=lb.length/\H'=H/\aX c lb=aX (c.drop k) (lb.drop k)) ⟨rfl,Q5 _,rfl,by simp⟩ ?_;rintro k i H' next hk ⟨rfl,A,rfl,f⟩ g
 refine ah (λh=>?_) (λh=>?_)
 ·simp only[QY,decide_eq_true_eq] at h;have h1:k<c.length:=by omega
  have w:k<lb.length:=by omega
  rw[drop_cons h1,drop_cons w,aX] at f;refine u.ld (by omega) (by omega) λB F=>?_;refine v.ld (by omega) (by omega) λC G=>?_;simp only[QP];refine ah (λj=>?_) (λj=>?_)
  ·have m:c.getD k 0<lb.getD k 0:=by simpa using j
   rw[if_pos m] at f;rw[<-f];exact d
  ·have m:¬c.getD k 0<lb.getD k 0:=by simpa using j
   rw[if_neg m] at f;refine u.ld (by omega) (by omega) λD I=>?_;refine v.ld (by omega) (by omega) λE J=>?_;simp only[QP];refine ah (λo=>?_) (λo=>?_)
   ·have s:lb.getD k 0<c.getD k 0:=by simpa using o
    rw[if_pos s] at f;rw[<-f];exact d
   ·have s:¬lb.getD k 0<c.getD k 0:=by simpa using o
    rw[if_neg s] at f;exact g h1 _ _ ⟨by rw[aD k (by omega)],w,rfl,f⟩
 ·have t:c.length<=k\/lb.length<=k:=by
   simp only[Bool.and_eq_false_iff,decide_eq_false_iff_not] at h;omega
  have e:aX c lb=if c.length<lb.length then -1 else if c.length>lb.length then 1 else 0:=by
   rw[f];rcases t with t|t
   ·rw[RL t];cases hd:lb.drop k with
    |nil=>
      have:=Yt.1 hd;rw[if_neg (by omega),if_neg (by omega)];rfl
    |cons y r=>
      have:=RM (i:=k) (l:=lb);rw[hd] at this;simp at this;rw[if_pos (by omega)];rfl
   ·rw[RL t];cases hd:c.drop k with
    |nil=>
      have:=Yt.1 hd;rw[if_neg (by omega),if_neg (by omega)];rfl
    |cons y r=>
      have:=RM (i:=k) (l:=c);rw[hd] at this;simp at this;rw[if_neg (by omega),if_pos (by omega)];rfl
  rw[e] at d;refine ah (λj=>?_) (λj=>?_)
  ·rw[if_pos (by simp at j;omega)] at d;exact d
  ·rw[if_neg (by simp at j;omega)] at d;refine ah (λo=>?_) (λo=>?_)
   ·rw[if_pos (by simp at o;omega)] at d;exact d
   ·rw[if_neg (by simp at o;omega)] at d;exact d
theorem vk {x y:Int}{H:aa}{K:Int->aa->Prop}(a:K (if x<y then -1 else if y<x then 1 else 0) H):IM.sp x y H K:=by
 have b:∀{z:Int} {H:aa} {K:Bool->aa->Prop},K false H->I3.sp z H K:=by
  intro z H K h;refine I3.of ?_;unfold I3.vc;simpa using h
 refine IM.of ?_;unfold IM.vc;refine b (b ?_);simp only[br];refine ah (λh=>?_) (λh=>?_)
 ·rw[if_pos (by simpa using h)] at a;exact a
 ·rw[if_neg (by simpa using h)] at a;refine ah (λh=>?_) (λh=>?_)
  ·rw[if_pos (by simpa using h)] at a;exact a
  ·rw[if_neg (by simpa using h)] at a;exact a
theorem gU {a b:Sl}{d lb:List Int}{H:aa}{K:Int->aa->Prop}(t:Ints .u64 H a d)(u:Ints .u64 H b lb)(hlen:d.length<1099511627776)(r:K (aX d lb) H):wU.sp a b H K:=by
 refine wU.of ?_;unfold wU.vc;refine Nd.of ?_;unfold Nd.vc;have v:=t.len;have w:=u.len;refine av d.length (λk i H'=>i=(k:Int)/\k<=lb.length/\H'=H/\aX d lb=aX (d.drop k) (lb.drop k)) ⟨rfl,Q5 _,rfl,by simp⟩ ?_;rintro k i H' next hk ⟨rfl,x,rfl,f⟩ g
 refine ah (λh=>?_) (λh=>?_)
 ·have h1:k<d.length:=by simp at h;omega
  rw[drop_cons h1] at f;refine t.ld (by omega) (by omega) λy A=>?_;simp only[QP];refine ah (λj=>?_) (λj=>?_)
  ·have c:lb.length<=k:=by simp at j;omega
   rw[RL c,aX] at f;rw[<-f];exact r
  ·have c:k<lb.length:=by simp at j;omega
   rw[drop_cons c,aX] at f;refine u.ld (by omega) (by omega) λz B=>?_;simp only[QP];refine vk ?_;refine ah (λl=>?_) (λl=>?_)
   ·have e:aX d lb=(if d.getD k 0<lb.getD k 0 then -1 else if lb.getD k 0<d.getD k 0 then 1 else 0):=by
     rw[f];by_cases m:d.getD k 0<lb.getD k 0
     ·rw[if_pos m,if_pos m]
     ·by_cases s:lb.getD k 0<d.getD k 0
      ·rw[if_neg m,if_pos s,if_neg m,if_pos s]
      ·rw[if_neg m,if_neg s] at l;simp at l
    rw[<-e];exact r
   ·have o:¬d.getD k 0<lb.getD k 0/\¬lb.getD k 0<d.getD k 0:=by
     constructor
     ·intro q;rw[if_pos q] at l;simp at l
     ·intro q;rw[if_neg (by omega),if_pos q] at l;simp at l
    rw[if_neg o.1,if_neg o.2] at f;exact g h1 _ _ ⟨by rw[aD k (by omega)],c,rfl,f⟩
 ·have h1:d.length<=k:=by simp at h;omega
  rw[RL h1] at f;refine ah (λj=>?_) (λj=>?_)
  ·have c:k<lb.length:=by simp at j;omega
   rw[drop_cons c,aX] at f;rw[<-f];exact r
  ·have c:lb.length<=k:=by simp at j;omega
   rw[RL c,aX] at f;rw[<-f];exact r
structure iD (H:aa)(base:Nat)(r:Sl)(l:List Int):Prop where
 own:aO H base fM 1 ⟨r.a,r.n+1,r.c⟩ ((l++[30583]).map (QT .u64))
theorem iD.len {H:aa}{base:Nat}{r:Sl}{l:List Int}(h:iD H base r l):r.n=l.length:=by
 have:=h.own.1;simp at this;omega
theorem iD.cap {H:aa}{base:Nat}{r:Sl}{l:List Int}(h:iD H base r l):r.n+1<=r.c:=h.own.cap
theorem iD.ints {H:aa}{base:Nat}{r:Sl}{l:List Int}(h:iD H base r l):Ints .u64 H r l:=by
 refine⟨h.len,?_⟩;have:=h.own.reads.take l.length;simpa using this
theorem iD.mod {F:Nat->Prop}{H H':aa}{base:Nat}{r:Sl}{l:List Int}(h:iD H base r l)(hm:Mod F H H')(a:∀b,ai r b->¬F b):iD H' base r l:=⟨h.own.mod hm a⟩
theorem iD.block {H:aa}{base:Nat}{r:Sl}{l:List Int}(h:iD H base r l):∀b,ai r b->base<=b/\b<H.size:=h.own.block
theorem El.Df {P:hQ}{t ty e:ic}{bytes:Nat}{z:gp}(h:El P t e bytes z){H:aa}{base:Nat}{s:Sl}{xs:List gp}{v:gp}{K:Sl->aa->Prop}
  (d:aO H base e 1 s xs) (h1:v.oneCell'=true) (k:s.n+1<=4611686018427387904) (f:(s.n+1)*bytes<=140737488355328) (g:base<=H.size)
  (l:∀(s':Sl) (H':aa),s'.n=s.n+1->aO H' base e 1 s' (xs++[v])->Mod (ai s) H H'->(∀b,ai s' b->ai s b\/H.size<=b)->s'.a≠none->K s' H'):
  aG H #[v] e λp H1=>bf aq P (QM #[t,t] ty #[s.v,.slice (some p) 1 1]) H1 K:=by
 have a:Mod (λ_=>False) H (H.push (.cells #[v] e)):=Mod.push _ _ _;refine El.wV (base:=base) (s:=s) (x:=⟨some ⟨H.size,0,none⟩,1,1⟩) (xs:=xs) (ws:=[v]) h (d.ext a) rfl ?_ (by simpa using h1) (by simpa using k) f (by simp;omega) ?_
 ·intro i u hu;cases i with
  |zero=>simp at hu;subst hu;exact⟨_,rfl,cC (c:=#[v]) (t:=e) (fz:=(0,0)) (by simp) (by simp)⟩
  |succ i=>simp at hu
 ·intro s' H' m o r w y;refine l s' H' m o ((Ext.mod a).trans r) (λb f=>?_) (λA=>by have:=(y.1 A).2;simp at this);rcases w b f with j|j
  ·exact .inl j
  ·simp at j;exact .inr (by omega)
theorem Ik {l:Sl}{ll:List Int}{H:aa}{K:Sl->aa->Prop}(hl:Ints .u64 H l ll)(hlen:ll.length<=17592186043904)
  (i:∀r H',iD H' H.size r ll->Ext H H'->K r H'):Ko.sp l H K:=by
 refine Ko.of ?_;unfold Ko.vc;have m:=hl.len;refine jR.wV (base:=H.size) (s:=Sl.mk none 0 0) (x:=l) (xs:=[]) (ws:=ll.map (QT .u64)) (aO.nil _ _ _ _) (by simp;omega) hl.reads (oa _ _) (by simp only;omega) (by simp only;omega) (QN _) ?_;intro out H1 n1 c m1 o _;simp only at n1;have d:Ext H H1:=m1.ext (by rintro b ⟨ad,h,_⟩;cases h);refine jR.Df (base:=H.size) (s:=out) c rfl (by omega) (by omega) d.size ?_;intro a e n2 f m2 t _;have j:Ext H e:=(d.mod (F:=ai out).trans m2).ext (λb k=>(c.block b k).1);have u:=f.cap;refine⟨by omega,?_⟩;refine i _ _ ⟨?_⟩ j;rw[mu];have g:a.n=(l.n:Int).toNat - 0+1:=by simp;omega
 have:Sl.mk a.a ((l.n:Int).toNat - 0+1) (a.c - 0)=a:=by cases a;simp only at g;simp[g]
 show aO e H.size fM 1 (Sl.mk a.a ((l.n:Int).toNat - 0+1) (a.c - 0)) _;rw[this];simpa using f
theorem Gu {r l:Sl}{ll:List Int}{base:Nat}{H:aa}{K:Bool->aa->Prop}(b:iD H base r ll)(hl:Ints .u64 H l ll)(hlen:ll.length<=17592186043904)(c:K true H):Iw.sp r l H K:=by
 refine Iw.of ?_;unfold Iw.vc;have d:=hl.len;have rn:=b.len;have f:=b.cap;refine sg b.ints hl (by omega) ?_;simp only[decide_true,br];rw[wrap64 (by omega) (by omega)];refine⟨by omega,?_⟩;rw[mu];obtain⟨ad,e,a⟩:=b.own.reads.at (i:=ll.length) (by simp);refine aZ ad e ⟨by omega,30583,?_,c⟩;simp only[QP,Rz,d];rw[a];simp
theorem Fe {l:Sl}{xs:List gp}{base:Nat}{H:aa}{K:Unit->aa->Prop}(hl:aO H base fM 1 l xs)(hlen:l.n<=17592186043904)(c:base<=H.size)
  (x:∀H',Mod (ai l) H H'->K () H'):IZ.sp l H K:=by
 refine IZ.of ?_;unfold IZ.vc;refine av l.n (λk i H'=>i=(k:Int)/\Mod (ai l) H H'/\∃g,aO H' base fM 1 l g) ⟨rfl,.refl _ _,_,hl⟩ ?_;rintro k i H1 next hk ⟨rfl,m1,g,u⟩ d
 refine ah (λh=>?_) (λh=>?_)
 ·have e:k<l.n:=by simp at h;omega
  refine u.st (by omega) (by omega) rfl λE y m2 _=>?_;exact d e _ _ ⟨by rw[aD k (by omega)],m1.trans m2,_,y⟩
 ·refine av 3 (λk z H'=>z.2=(k:Int)/\z.1.n=l.n+k/\Mod (ai l) H H'/\(∀b,ai z.1 b->ai l b\/H.size<=b)/\∃g,aO H' base fM 1 z.1 g) ⟨rfl,rfl,m1,λb o=>.inl o,_,u⟩ ?_;rintro j ⟨m,i⟩ F r G ⟨hi,A,m3,s,B,v⟩ a;simp only at hi A s v ⊢;subst hi;refine ah (λw=>?_) (λw=>?_)
  ·have e:j<3:=by simp at w;omega
   refine jR.Df (base:=base) v rfl (by omega) (by omega) (QZ c m3.size) ?_;intro I J L C m4 D _;refine a e _ _ ⟨by rw[aD j (by omega)],by simp only;omega,m3.trans' m4 (λb o t=>?_),λb o=>?_,_,C⟩
   ·rcases s b t with f|f
    ·exact f
    ·omega
   ·rcases D b o with f|f
    ·exact s b f
    ·exact .inr (QZ m3.size f)
  ·exact x _ m3
def bI (w:Int):Int:=if w<0\/w>16 then 0 else if w=0 then 1 else 8*w
theorem uL {w:Int}{H:aa}{K:Int->aa->Prop}(a:K (bI w) H):J3.sp w H K:=by
 refine J3.of ?_;unfold J3.vc;unfold bI at a;refine ah (λh=>?_) (λh=>?_)
 ·have b:w<0:=by simpa using h
  rw[if_pos (.inl b)] at a;simpa[b,br] using a
 ·have b:¬w<0:=by simpa using h
  refine ah (λc=>?_) (λc=>?_)
  ·rw[if_pos (.inr (by simpa using c))] at a;exact a
  ·have e:¬w>16:=by simpa using c
   rw[if_neg (by omega)] at a;refine ah (λd=>?_) (λd=>?_)
   ·rw[if_pos (by simpa using d)] at a;exact a
   ·rw[if_neg (by simpa using d)] at a;rw[wrap64 (by omega) (by omega)];exact a
theorem uf {w:Int}{H:aa}{K:Int->aa->Prop}(a:K (bI w) H):KV.sp w H K:=by
 refine KV.of ?_;unfold KV.vc;unfold bI at a;refine ah (λh=>?_) (λh=>?_)
 ·rw[if_pos (by simpa using h)] at a;exact a
 ·have c:¬(w<0\/w>16):=by simpa using h
  rw[if_neg c] at a;rw[wrap64 (by omega) (by omega)];by_cases b:w=0
  ·rw[if_pos b] at a;subst b;simpa using a
  ·rw[if_neg b] at a;rw[if_pos (by omega)];exact a
def aL (w:Int):Int:=if bI w=0 then 0 else Rt 504 (bI w)
theorem fS (w:Int):bI w=0\/(0<bI w/\bI w<=128):=by
 unfold bI;split
 ·simp
 ·split
  ·simp
  ·right;omega
theorem rZ (w:Int):QI.wrap (Rt 504 (bI w))=Rt 504 (bI w):=by
 have c:=Zr (a:=504) (b:=bI w) (by omega) (by rcases fS w with h|h<;>omega);have h1:Rt 504 (bI w)<=504:=by
  rcases fS w with h|h
  ·rw[h];simp
  ·exact Zd _ (by omega)
 exact wrap64 (by omega) (by omega)
theorem oZ {w:Int}{H:aa}{K:Int->aa->Prop}(a:K (aL w) H):IE.sp w H K:=by
 refine IE.of ?_;unfold IE.vc;refine uL ?_;unfold aL at a;have c:=fS w;refine ah (λh=>?_) (λh=>?_)
 ·have b:bI w>0:=by simpa using h
  rw[if_neg (by omega)] at a;refine⟨by omega,?_⟩;rw[rZ];exact a
 ·have b:¬bI w>0:=by simpa using h
  rw[if_pos (by omega)] at a;exact a
theorem fH {w:Int}{H:aa}{K:Int->aa->Prop}(a:K (aL w) H):CT.sp w H K:=by
 refine CT.of ?_;unfold CT.vc;refine uf ?_;unfold aL at a;refine ah (λh=>?_) (λh=>?_)
 ·rw[if_pos (by simpa using h)] at a;exact a
 ·rw[if_neg (by simpa using h)] at a;refine⟨by simpa using h,?_⟩;rw[rZ];exact a
structure Rows (H:aa)(s:Sl)(ls:List (List Int)):Prop where
 len:s.n=ls.length
 at':∀i (h:i<ls.length),∃ad r,s.a=some ad/\dh H (ad.add i)=some (Sl.v r)/\Ints .u64 H r ls[i]
theorem Rows.ld {H:aa}{s:Sl}{ls:List (List Int)}(h:Rows H s ls){i:Nat}(hi:i<ls.length){K:hY->Sl->Prop}(b:∀ad r,s.a=some ad->Ints .u64 H r (ls[i]'hi)->K ad r):
  ae s.a λa=>(0<=(i:Int)/\(i:Int)<(s.n:Int))/\ld aq H (a.add ((i:Int).toNat*1)) λx=>K a x:=by
 obtain⟨ad,r,e,c,d⟩:=h.at' i hi;refine aZ ad e ⟨⟨by omega,by rw[h.len];omega⟩,r,?_,b ad r e d⟩;simp only[QP,Rz];exact c
theorem sE {a b:Sl}{c lb:List (List Int)}{H:aa}{K:Bool->aa->Prop}(w:Rows H a c)(x:Rows H b lb)(hlen:c.length<1099511627776)(hl:∀l∈c,l.length<1099511627776)(j:K (decide (c=lb)) H):Kt.sp a b H K:=by
 refine Kt.of ?_;unfold Kt.vc;have m:=w.len;have o:=x.len;refine ah (λh=>?_) (λh=>?_)
 ·have h1:c≠lb:=by intro e;subst e;simp[m,o] at h
  simpa[h1] using j
 ·have C:(a.n:Int)=(b.n:Int):=by simpa using h
  have y:c.length=lb.length:=by omega
  refine av c.length (λk i H'=>i=(k:Int)/\H'=H/\c.take k=lb.take k) ⟨rfl,rfl,by simp⟩ ?_;rintro k i H' next hk ⟨rfl,rfl,r⟩ f
  refine ah (λh1=>?_) (λh1=>?_)
  ·have d:k<c.length:=by simp at h1;omega
   refine w.ld d λz D E s=>?_;refine x.ld (by omega) λA r2 F t=>?_;refine pj s t (hl _ (Re _)) ?_;refine ah (λg=>?_) (λg=>?_)
   ·have B:c≠lb:=by intro e;subst e;simp at g
    simpa[B] using j
   ·refine f d _ _ ⟨by rw[aD k (by omega)],rfl,?_⟩;have u:c[k]'d=lb[k]'(by omega):=by simpa using g
    rw[QO d,QO (by omega:k<lb.length),r,u]
  ·have v:k=c.length:=by simp at h1;omega
   subst v;have g:c=lb:=by rw[QS (QN _),QS (by omega)] at r;exact r
   simpa[g] using j
def wS (n:Int)(k:Nat):Int:=RE.wrap (dQ .u64 n (56 - 8*(k:Int)))
def fk (n:Int):List Int:=(RI 8).map (wS n)
def fh (l:List Int):List Int:=if l=[] then [0] else l.flatMap fk
theorem cu (n:Int):(fk n).length=8:=by simp[fk]
theorem lP (n:Int){k:Nat}(hk:k<8):(fk n).take (k+1)=(fk n).take k++[wS n k]:=by
 rw[QO (by rw[cu];exact hk)];simp[fk]
theorem nj {l:List Int}{k:Nat}(hk:k<l.length):(l.take (k+1)).flatMap fk=(l.take k).flatMap fk++fk (l.getD k 0):=by
 rw[QO hk,List.flatMap_append];simp only[List.flatMap_cons,List.flatMap_nil,List.append_nil,RY,QK hk,Ug]
theorem CU:zc QH Hi=Tm 8 (.int .u8 0):=by kernel_rfl
theorem wa:nk QH Hi 8=true:=by kernel_rfl
theorem EC {n:Int}{H:aa}{K:Array gp->aa->Prop}(o:∀H',Ext H H'->K ((fk n).map (QT .u8)).toArray H'):L5.sp (zc QH Hi) n H K:=by
 refine L5.of ?_;unfold L5.vc;rw[CU];refine uH λp H1 w s1 r s=>?_;refine uH λq y A s2 r2 j=>?_;have f:p.block≠q.block:=by omega
 refine av 8 (λk z H'=>z=(k:Int)/\(∃cs:List gp,cs.length=8/\cs.take k=((fk n).take k).map (QT .u8)/\jX H' p cs.toArray)/\jX H' q (Tm 8 (.int .u8 0))/\Ext H H') ⟨rfl,⟨Q6 8 (.int .u8 0),by simp,by simp,r.mod j id⟩,r2,s.trans j⟩ ?_;rintro k z B next hk ⟨rfl,⟨cs,hl,g,l⟩,m,d⟩ a
 refine ah (λh=>?_) (λh=>?_)
 ·have c:k<8:=by simp at h;omega
  rw[wrap64 (x:=8*(k:Int)) (by omega) (by omega),wrap64 (by omega) (by omega)];refine⟨by omega,by omega,?_⟩;simp only[QP,Rz];refine l.st (by simp;omega) rfl λC t m4 _=>?_;refine a c _ _ ⟨by rw[aD k (by omega)],⟨cs.set k (.int .u8 (wS n k)),by simpa using hl,?_,by rw[<-List.setIfInBounds_toArray];exact t⟩,m.mod m4 (λu=>f u.symm),?_⟩
  ·rw[lP n c,Rm,<-g,QO (by simpa[hl] using c)];simp[List.take_set];rw[List.set_eq_of_length_le (by simp;omega)]
  ·exact⟨QZ d.size m4.size,λb e _=>(m4.same b (Sk e d.size) (by omega)).trans (d.same b e id)⟩
 ·have i:k=8:=by simp at h;omega
  subst i;rw[QS (by omega),QS (by rw[cu];omega)] at g;subst g;refine l.cN (by simp[cu]) ?_;refine m.iE (by simpa[cu] using wa) (by simp[cu]) (by simp[XK]) λD v m5 _=>?_;refine v.cN (by simp[cu]) ?_;exact o _ ⟨QZ d.size m5.size,λb e _=>(m5.same b (Sk e d.size) (by omega)).trans (d.same b e id)⟩
theorem Gc {H:aa}:aO (H.push (.cells #[.int .u8 0] fU)) H.size fU 1 ⟨some ⟨H.size,0,none⟩,1,1⟩ ([(0:Int)].map (QT .u8)):=
 aO.fresh (QN _) (QN _) (by unfold maxLen;omega) rfl rfl rfl
theorem vQ {l:Sl}{ll:List Int}{H:aa}{K:Sl->aa->Prop}(hl:Ints .u64 H l ll)(hlen:ll.length<=1000000)
  (g:∀s H',aO H' H.size fU 1 s ((fh ll).map (QT .u8))->Ext H H'->K s H'):BY.sp l H K:=by
 refine BY.of ?_;unfold BY.vc;have u:=hl.len;refine ah (λh=>?_) (λh=>?_)
 ·have m:ll=[]:=Ra (by simp at h;omega);refine g _ _ ?_ (Mod.push _ _ _);unfold fh;rw[if_pos m];exact Gc
 ·have m:ll≠[]:=by intro e;subst e;simp at u;simp[u] at h
  unfold fh at g;rw[if_neg m] at g;rw[wrap64 (by omega) (by omega)];refine M3.make (base:=H.size) (by omega) (by omega) (by omega) (by omega) (QN _) ?_;intro out H1 n1 y A M _;refine av ll.length (λk z H'=>z.2=(k:Int)/\z.1.n=8*k/\aO H' H.size fU 1 z.1 (((ll.take k).flatMap fk).map (QT .u8))/\Ext H H') ⟨rfl,by simpa using n1,by simpa using y,A⟩ ?_;rintro k ⟨s,i⟩ o next hk ⟨hi,B,d,j⟩ a
  simp only at hi B d ⊢;subst hi;refine ah (λh=>?_) (λh=>?_)
  ·have f:k<ll.length:=by simp at h;omega
   refine(hl.ext j).ld (by omega) (by omega) λC O=>?_;simp only[QP];refine EC λP v=>?_;rw[CU];refine uH λp D Q R E G=>?_;refine E.iE (by simpa[cu] using wa) (by simp[cu]) (by simp[XK]) λI J m5 S=>?_;have r:Ext o D:=v.trans G;have c:Ext o I:=(r.mod (F:=λb=>b=p.block).trans m5).ext (λb w=>by have:=v.size;omega);rw[mu];refine M3.append (base:=H.size) (s:=s) (x:=⟨some p,8 - 0,8 - 0⟩) (ws:=(fk (ll.getD k 0)).map (QT .u8)) (d.ext c) (by simp[cu]) (by simpa using J.reads) (oa _ _) (by simp only;omega) (by simp only;omega) (j.trans c).size ?_;intro s' U n6 L m6 V _;refine a f _ _ ⟨by rw[aD k (by omega)],by simp only at n6 ⊢;omega,?_,((Ext.mod (F:=ai s) (j.trans c)).trans m6).ext (λb w=>(d.block b w).1)⟩;simp only;rw[nj f,Rm];exact L
  ·have t:k=ll.length:=by simp at h;omega
   subst t;rw[QS (QN _)] at d;exact g s o d j
theorem wT {l:Sl}{ll:List Int}{H:aa}{K:Sl->aa->Prop}(hl:Ints .u64 H l ll)(hlen:ll.length<=1000000)
  (r:∀s H',aO H' H.size fU 1 s ((fh ll).map (QT .u8))->Ext H H'->K s H'):Ky.sp l H K:=by
 refine Ky.of ?_;unfold Ky.vc;have y:=hl.len;refine ah (λh=>?_) (λh=>?_)
 ·have v:ll=[]:=Ra (by simp at h;omega);refine r _ _ ?_ (Mod.push _ _ _);unfold fh;rw[if_pos v];exact Gc
 ·have v:ll≠[]:=by intro e;subst e;simp at y;simp[y] at h
  unfold fh at r;rw[if_neg v] at r;refine av ll.length (λk z H'=>z.2=(k:Int)/\z.1.n=8*k/\aO H' H.size fU 1 z.1 (((ll.take k).flatMap fk).map (QT .u8))/\Ext H H') ⟨rfl,rfl,aO.nil _ _ _ _,Mod.refl _ _⟩ ?_;rintro k ⟨s,i⟩ C next hk ⟨hi,A,t,B⟩ d
  simp only at hi A t ⊢;subst hi;refine ah (λh=>?_) (λh=>?_)
  ·have g:k<ll.length:=by simp at h;omega
   refine av 8 (λj z H'=>z.2=56 - 8*(j:Int)/\z.1.n=8*k+j/\aO H' H.size fU 1 z.1 (((ll.take k).flatMap fk++(fk (ll.getD k 0)).take j).map (QT .u8))/\Ext H H') ⟨rfl,A,by simpa using t,B⟩ ?_;rintro j ⟨s2,i2⟩ I w J ⟨m,x,o,u⟩ a;simp only at m x o ⊢;subst m;refine ah (λh=>?_) (λh=>?_)
   ·have c:j<8:=by simp at h;omega
    refine(hl.ext u).ld (by omega) (by omega) λD L=>?_;simp only[QP];refine⟨by omega,?_⟩;refine M3.push (base:=H.size) o rfl (by omega) (by omega) u.size ?_;intro s' M O E m4 P _;refine a c _ _ ⟨by simp only;rw[wrap64 (by omega) (by omega)];omega,by simp only;omega,?_,(u.mod (F:=ai s2).trans m4).ext (λb G=>(o.block b G).1)⟩;simp only;rw[lP _ c,<-RD,Rm];exact E
   ·have f:j=8:=by simp at h;omega
    subst f;rw[QS (l:=fk (ll.getD k 0)) (by rw[cu];omega)] at o;refine d g _ _ ⟨by rw[aD k (by omega)],by simp only;omega,?_,u⟩;simp only;rw[nj g];exact o
  ·have f:k=ll.length:=by simp at h;omega
   subst f;rw[QS (QN _)] at t;exact r s C t B
def pL (w b:Int):Int:=Rj.wrap (Rj.wrap (w*256)+Rj.wrap b)
def cp (a:List Int):Int:=a.foldl pL 0
def rowOf (c:List Int)(w:Nat):List Int:=(RI w).map λj=>cp ((c.drop (8*j)).take 8)
def eU (b:List Int)(w:Int):Bool:=decide (bI w≠0)&&decide (RP (b.length:Int) (bI w)=0)&&(decide (w≠0)||b.all λx=>decide (x=0))
def bS (b:List Int)(n k:Nat):List Int:=(b.drop (k*n)).take n
def rowsOf (b:List Int)(w:Int)(m:Nat):List (List Int):=(RI m).map λk=>rowOf (bS b (bI w).toNat k) w.toNat
def jK (b:List Int)(w:Int):List (List Int):=if eU b w then rowsOf b w (b.length/(bI w).toNat) else []
def qR (b:List Int)(w:Int):Int:=if eU b w then 0 else 60
theorem uk (x:Int):Rj.wrap x=x%18446744073709551616:=by
 rw[YA]
theorem zV (w b:Int):0<=pL w b/\pL w b<18446744073709551616:=by
 unfold pL;rw[uk];omega
theorem iP (a:List Int):0<=cp a/\cp a<18446744073709551616:=by
 unfold cp;rcases List.eq_nil_or_concat a with h|⟨l,x,h⟩
 ·subst h;simp
 ·subst h;rw[List.concat_eq_append,Uc];exact zV _ _
theorem HC {x b:Int}(d:0<=x)(e:x<18446744073709551616)(f:0<=b)(g:b<256):AN .u64 (lW .u64 x 8) (Rj.wrap b)=pL x b:=by
 unfold pL AN lW;have h:(2:Int)^(min (8:Int).toNat Rj.bits)=256:=by decide
 rw[h];simp only[uk];obtain⟨n,rfl⟩:=Ts d;obtain⟨m,rfl⟩:=Ts f;have hm:m<256:=by omega
 obtain⟨r,s⟩:∃r,r=n%72057594037927936:=⟨_,rfl⟩;have j:r<72057594037927936:=by omega
 have k:((n:Int)*256)%18446744073709551616=((256*r:Nat):Int):=by omega
 have l:(m:Int)%18446744073709551616=((m:Nat):Int):=by omega
 have o:(SX Rj.bits ((256*r:Nat):Int)|||SX Rj.bits ((m:Nat):Int)).toNat=256*r+m:=by
  have a:Rj.bits=64:=rfl;have c:=Nat.two_pow_add_eq_or_of_lt (i:=8) (b:=m) hm r;rw[U3,U3,BitVec.toNat_or,Tr,Tr,a,Uh (by omega),Uh (by omega)];exact c.symm
 rw[k,l,o];rw[Int.natCast_add]
theorem gv (c:List Int)(w:Nat):(rowOf c w).length=w:=by simp[rowOf]
theorem BW {c:List Int}{w i:Nat}(hi:i<c.length)(hw:c.length=8*w):
  (rowOf (c.take i) w).set (i/8) (pL ((rowOf (c.take i) w).getD (i/8) 0) (c.getD i 0))=rowOf (c.take (i+1)) w:=by
 have e:i/8<w:=by omega
 apply Ze
 ·simp[rowOf]
 ·intro j h1 f;have k:j<w:=by simpa[rowOf] using f
  have d:∀t,((c.take t).drop (8*j)).take 8=(c.drop (8*j)).take (min 8 (t - 8*j)):=by
   intro t;rw[List.drop_take,T0]
  rw[List.getElem_set];by_cases a:i/8=j
  ·subst a;rw[if_pos rfl];simp only[rowOf,RY,QV,Wp e,UJ,Ug,Vl,YN];simp only[d];have g:min 8 (i+1 - 8*(i/8))=min 8 (i - 8*(i/8))+1:=by omega
   have h:min 8 (i - 8*(i/8))=i - 8*(i/8):=by omega
   have b:i - 8*(i/8)<(c.drop (8*(i/8))).length:=by simp;omega
   rw[g,h,QO b];unfold cp;rw[Uc,Tx,ZH];congr 1;rw[QK hi,Ug,XL];congr 1;omega
  ·rw[if_neg a];simp only[rowOf,Vl,YN,d];congr 2;omega
theorem DK (w:Nat):rowOf [] w=Q6 w 0:=by
 apply Ze
 ·simp[rowOf]
 ·intro j h1 a;simp[rowOf,cp]
structure aJ (H:aa)(base:Nat)(s:Sl)(rs:List Sl)(ls:List (List Int)):Prop where
 out:aO H base dv 1 s (rs.map Sl.v)
 len:rs.length=ls.length
 row:∀(i:Nat) (r:Sl) (l:List Int),rs[i]?=some r->ls[i]?=some l->aO H base fM 1 r (l.map (QT .u64))
 apart:∀(i j:Nat) (r r':Sl),i≠j->rs[i]?=some r->rs[j]?=some r'->∀b,ai r b->¬ai r' b
theorem aJ.nil (H:aa)(base:Nat):aJ H base (Sl.mk none 0 0) [] []:=⟨aO.nil _ _ _ _,rfl,by simp,by simp⟩
theorem aJ.n {H:aa}{base:Nat}{s:Sl}{rs:List Sl}{ls:List (List Int)}(h:aJ H base s rs ls):s.n=ls.length:=by
 have h1:=h.out.1;have a:=h.len;simp at h1;omega
theorem aJ.mod {F:Nat->Prop}{H H':aa}{base:Nat}{s:Sl}{rs:List Sl}{ls:List (List Int)}(h:aJ H base s rs ls)(hm:Mod F H H')(hs:∀b,ai s b->¬F b)(a:∀r∈rs,∀b,ai r b->¬F b):aJ H' base s rs ls:=
 ⟨h.out.mod hm hs,h.len,λi r l h1 c=>(h.row i r l h1 c).mod hm (a r (QL h1)),h.apart⟩
theorem aJ.ext {H H':aa}{base:Nat}{s:Sl}{rs:List Sl}{ls:List (List Int)}(h:aJ H base s rs ls)(hm:Ext H H'):aJ H' base s rs ls:=h.mod hm (λ_ _=>id) (λ_ _ _ _=>id)
theorem aJ.rowAt {H:aa}{base:Nat}{s:Sl}{rs:List Sl}{ls:List (List Int)}(h:aJ H base s rs ls){r:Sl}(b:r∈rs):∃l:List Int,aO H base fM 1 r (l.map (QT .u64)):=by
 obtain⟨i,hi⟩:=QU.1 b;have a:i<ls.length:=by rw[<-h.len];exact(QJ.1 hi).1
 exact⟨_,h.row i r _ hi (QK a)⟩
theorem aJ.block {H:aa}{base:Nat}{s:Sl}{rs:List Sl}{ls:List (List Int)}(h:aJ H base s rs ls):(∀b,ai s b->base<=b/\b<H.size)/\∀r∈rs,∀b,ai r b->base<=b/\b<H.size:=
 ⟨h.out.block,λr a=>by obtain⟨l,hl⟩:=h.rowAt a;exact hl.block⟩
theorem aJ.rows {H:aa}{base:Nat}{s:Sl}{rs:List Sl}{ls:List (List Int)}(h:aJ H base s rs ls):Rows H s ls:=by
 refine⟨h.n,λi hi=>?_⟩;have a:i<rs.length:=by rw[h.len];exact hi
 obtain⟨ad,b,c⟩:=h.out.reads.at (i:=i) (by simpa using a);exact⟨ad,rs[i],b,by simpa using c,(h.row i _ _ (QK a) (QK hi)).ints⟩
theorem aJ.Dn {ty:ic}{H:aa}{base:Nat}{s:Sl}{rs:List Sl}{ls:List (List Int)}{r:Sl}{l:List Int}{K:Sl->aa->Prop}(h:aJ H base s rs ls)
  (w:aO H base fM 1 r (l.map (QT .u64))) (g:∀r'∈rs,∀b,ai r b->¬ai r' b) (z:s.n+1<=1099511627776) (e:base<=H.size)
  (A:∀s' H',s'.n=s.n+1->aJ H' base s' (rs++[r]) (ls++[l])->Mod (ai s) H H'->(∀b,ai s' b->ai s b\/H.size<=b)->K s' H'):
  aG H #[r.v] dv λp H1=>bf aq QH (QM #[dY,dY] ty #[s.v,.slice (some p) 1 1]) H1 K:=by
 refine uS.push (base:=base) h.out rfl z (by omega) e ?_;intro s' H' n1 B m1 C _;refine A s' H' n1 ⟨by simpa using B,by simp[h.len],?_,?_⟩ m1 C
 ·intro i x y a d;rw[TJ] at a d;have hl:=h.len;split at a
  ·rename_i k;rw[if_pos (by omega)] at d;exact(h.row i x y a d).mod m1 (λb f c=>(h.row i x y a d).apart h.out (by decide) b f c)
  ·rename_i t;rw[if_neg (by omega)] at d;have u:i - rs.length=0:=by
    have:=(QJ.1 a).1;simp at this;omega
   have D:i - ls.length=0:=by omega
   rw[u] at a;rw[D] at d;simp at a d;subst a;subst d;exact w.mod m1 (λb f c=>w.apart h.out (by decide) b f c)
 ·intro i j x y v a d b f;have key:∀(i:Nat) (x:Sl),(rs++[r])[i]?=some x->(i<rs.length/\rs[i]?=some x)\/(i=rs.length/\x=r):=by
   intro i x a;rw[TJ] at a;split at a
   ·rename_i k;exact .inl ⟨k,a⟩
   ·rename_i t;have u:i - rs.length=0:=by
     have:=(QJ.1 a).1;simp at this;omega
    rw[u] at a;simp at a;exact .inr ⟨by omega,a.symm⟩
  rcases key i x a with ⟨h1,m⟩|⟨h1,m⟩<;>rcases key j y d with ⟨E,o⟩|⟨E,o⟩
  ·exact h.apart i j x y v m o b f
  ·subst o;exact λc=>g x (QL m) b c f
  ·subst m;exact g y (QL o) b f
  ·omega
theorem aJ.push {ty:ic}{H:aa}{base:Nat}{s:Sl}{rs:List Sl}{ls:List (List Int)}{r:Sl}{l:List Int}{K:Sl->aa->Prop}(h:aJ H base s rs ls)
  (f:aO H base fM 1 r (l.map (QT .u64))) (e:∀r'∈rs,∀b,ai r b->¬ai r' b) (g:s.n+1<=1099511627776) (d:base<=H.size)
  (i:∀s' H',s'.n=s.n+1->aJ H' base s' (rs++[r]) (ls++[l])->Mod (ai s) H H'->K s' H'):
  aG H #[r.v] dv λp H1=>bf aq QH (QM #[dY,dY] ty #[s.v,.slice (some p) 1 1]) H1 K:=
 aJ.Dn h f e g d λs' H' a b c _=>i s' H' a b c
theorem rV (b:List Int)(w:Int)(m:Nat):rowsOf b w (m+1)=rowsOf b w m++[rowOf (bS b (bI w).toNat m) w.toNat]:=by
 simp[rowsOf,WU]
theorem tmod_zero {a n:Nat}(_:0<n)(h:RP (a:Int) (n:Int)=0):a=a/n*n:=by
 rw[<-Int.ofNat_tmod] at h;have h1:a%n=0:=by exact_mod_cast h
 have:=Yd a n;rw[h1,Xb] at this;omega
theorem qf {b:List Int}{n k j:Nat}(a:j<n):(bS b n k).getD j 0=b.getD (k*n+j) 0:=by
 unfold bS;simp only[RY,RF,Si];rw[if_pos a]
theorem mX {b:List Int}{n k m:Nat}(a:b.length=m*n)(hk:k<m):(bS b n k).length=n:=by
 unfold bS;have:=Rq n (Ub hk);rw[RQ] at this;simp;omega
theorem wZ {b:List Int}{w:Int}{k:Nat}(hw:w=0)(hk:k<b.length)(h:b.getD k 0≠0):eU b w=false:=by
 unfold eU;have:(b.all λx=>decide (x=0))=false:=by
  rw[List.all_eq_false];refine⟨b[k],Re _,?_⟩;simp[RY,QK hk] at h;simpa using h
 rw[this];simp[hw]
theorem tk {b:List Int}{w:Int}(h1:bI w≠0)(a:RP (b.length:Int) (bI w)=0)(c:w=0->∀k,k<b.length->b.getD k 0=0):eU b w=true:=by
 unfold eU;simp only[QY,decide_eq_true_eq,Bool.or_eq_true,List.all_eq_true];refine⟨⟨h1,a⟩,?_⟩;by_cases hw:w=0
 ·right;intro x d;obtain⟨k,hk,e⟩:=List.mem_iff_getElem.1 d;have:=c hw k hk;simp[RY,QK hk] at this;rw[<-e];exact this
 ·exact .inl hw
theorem wz {p:Sl}{b:List Int}{w:Int}{H:aa}{K:(Sl×Int)->aa->Prop}(hp:Ints .u8 H p b)(hlen:b.length<=1000000)
  (hK:∀s rs H',aJ H' H.size s rs (jK b w)->Ext H H'->K (s,qR b w) H'):JG.sp p w H K:=by
 refine JG.of ?_;unfold JG.vc;have S:=hp.len;have bad:∀H',Ext H H'->eU b w=false->K (Sl.mk none 0 0,60) H':=by
  intro H' e hf;have:=hK (Sl.mk none 0 0) [] H' (by unfold jK;rw[hf];exact aJ.nil _ _) e;unfold qR at this;rw[hf] at this;exact this
 refine uf ?_;refine ah (λh=>?_) (λh=>?_)
 ·have o:bI w=0:=by simpa using h
  exact bad _ (Mod.refl _ _) (by unfold eU;simp[o])
 ·have o:bI w≠0:=by simpa using h
  have bb:=fS w;refine⟨o,ah (λC=>?_) (λC=>?_)⟩
  ·have g:¬RP (b.length:Int) (bI w)=0:=by rw[S] at C;simpa using C
   exact bad _ (Mod.refl _ _) (by unfold eU;simp[g])
  ·have g:RP (b.length:Int) (bI w)=0:=by rw[S] at C;simpa using C
   obtain⟨n,a⟩:∃n:Nat,bI w=(n:Int):=⟨(bI w).toNat,by omega⟩;have E:0<n:=by omega
   have hmul:b.length=b.length/n*n:=tmod_zero E (by rw[<-a];exact g);have bd:0<=w/\w<=16:=by 
    unfold bI at o;split at o
    ·exact absurd rfl o
    ·omega
   have af:w≠0->n=8*w.toNat:=by
    intro hw;unfold bI at a;rw[if_neg (by omega),if_neg hw] at a;omega
   refine av (b.length/n) (λk z H'=>z.2=((k*n:Nat):Int)/\z.1.n=k/\(w=0->∀j,j<k->b.getD j 0=0)/\(∃rs,aJ H' H.size z.1 rs (rowsOf b w k))/\Ext H H') ⟨by simp,rfl,λ_ j U=>by omega,⟨[],aJ.nil _ _⟩,Mod.refl _ _⟩ ?_;rintro k ⟨s,i⟩ V next hk ⟨hi,al,hz,⟨rs,r2⟩,r⟩ t
   simp only at hi al r2 ⊢;have G:k<b.length/n->k*n+n<=b.length:=by
    intro d;have:=Rq n (Ub d);rw[RQ] at this;omega
   refine ah (λD=>?_) (λD=>?_)
   ·have d:k<b.length/n:=by
     rcases RA k (b.length/n) with q|q
     ·exact q
     ·have e:k=b.length/n:=by omega
      simp at D;rw[hi,S] at D;rw[e] at D;omega
    have bh:=G d;have I:k<b.length:=by have:=WB k E;omega
    refine⟨λ_ H'=>V=H'/\(w=0->b.getD k 0=0),?_,?_⟩
    ·refine ah (λW=>?_) (λW=>⟨rfl,λhw=>by simp at W;exact absurd hw W⟩);have hw:w=0:=by simpa using W
     have u:n=1:=by unfold bI at a;rw[hw] at a;simp at a;omega
     refine jW (hp.ext r) (j:=k) (by rw[hi,u];simp) I λad q=>?_;refine ah (λv=>?_) (λv=>⟨rfl,λ_=>by simpa using v⟩);exact bad _ r (wZ hw I (by simpa using v))
    ·rintro _ H3 ⟨rfl,hzero⟩;refine av w.toNat (λj z H'=>z.2=(j:Int)/\z.1.n=j/\aO H' H.size fM 1 z.1 (((rowOf (bS b n k) w.toNat).take j).map (QT .u64))/\(∀c,ai z.1 c->V.size<=c)/\Ext V H') ⟨rfl,rfl,aO.nil _ _ _ _,(by rintro c ⟨ad,q,_⟩;cases q),Mod.refl _ _⟩ ?_;rintro j ⟨s4,i4⟩ H4 an U ⟨J,a1,X,Y,y⟩ l;simp only at J a1 X Y ⊢;subst J;refine ah (λv=>?_) (λv=>?_)
     ·have f:j<w.toNat:=by simp at v;omega
      have hw:w≠0:=by omega
      have bl:=af hw;refine av 8 (λq z H'=>z.2=(q:Int)/\z.1=cp (((bS b n k).drop (8*j)).take q)/\H'=H4) ⟨rfl,by simp[cp],rfl⟩ ?_;rintro q ⟨x5,i5⟩ H5 a6 hq ⟨L,A,rfl⟩ m;simp only at L A ⊢;subst L;have bn:=mX hmul d;refine ah (λh6=>?_) (λh6=>?_)
      ·have B:q<8:=by simp at h6;omega
       have M:QI.wrap (QI.wrap (i+QI.wrap (8*(j:Int)))+(q:Int))=((k*n+(8*j+q):Nat):Int):=by
        rw[wrap64 (x:=8*(j:Int)) (by omega) (by omega),wrap64 (x:=i+_) (by omega) (by omega),wrap64 (by omega) (by omega),hi]
        push_cast;omega
       refine jW (hp.ext (r.trans y)) M (by omega) λad Z=>?_;refine m B _ _ ⟨by rw[aD q (by omega)],?_,rfl⟩;simp only;have O:q<((bS b n k).drop (8*j)).length:=by simp;omega
       rw[QO O,A];unfold cp;rw[Uc,Tx,ZH];show pL _ _=pL _ _;congr 1;rw[XL,<-qf (by omega)];simp[RY,QK (show 8*j+q<(bS b n k).length by omega)]
      ·have B:q=8:=by simp at h6;omega
       subst B;refine jR.push (base:=H.size) X rfl (by omega) (by omega) (r.trans y).size ?_;intro s6 H6 n6 o6 m6 b6 _;refine l f _ _ ⟨by rw[aD j (by omega)],by simp only;omega,?_,λc P=>?_,(y.mod (F:=ai s4).trans m6).ext Y⟩
       ·simp only;rw[QO (by rw[gv];exact f),Rm];have e:(rowOf (bS b n k) w.toNat)[j]'(by rw[gv];exact f)=x5:=by
         rw[A];simp[rowOf]
        rw[e];exact o6
       ·rcases b6 c P with Z|Z
        ·exact Y c Z
        ·exact QZ y.size Z
     ·have f:j=w.toNat:=by simp at v;omega
      subst f;rw[QS (by rw[gv];exact QN _)] at X;have r4:=r2.ext y;refine r4.push X (λr' a7 c P a8=>?_) (by omega) (r.trans y).size ?_
      ·have h1:=(r2.block.2 r' a7 c a8).2;have C:=Y c P;omega
      ·intro s7 H7 n7 r7 m7;refine t d _ _ ⟨?_,by simp only;omega,λhw j U=>?_,⟨rs++[s4],?_⟩,((Ext.mod (F:=ai s) (r.trans y)).trans m7).ext (λc P=>(r2.block.1 c P).1)⟩
       ·simp only;rw[a,hi,wrap64 (by omega) (by omega),RQ];push_cast;rfl
       ·rcases RA j k with q|q
        ·exact hz hw j q
        ·have:j=k:=by omega
         rw[this];exact hzero hw
       ·simp only;rw[rV,a];exact r7
   ·have Q:k=b.length/n:=by
     rcases RA k (b.length/n) with q|q
     ·have:=G q;simp at D;rw[hi,S] at D;omega
     ·omega
    have R:eU b w=true:=tk o g (λhw j U=>hz hw j (by
     have u:n=1:=by unfold bI at a;rw[hw] at a;simp at a;omega
     rw[Q,u];simpa using U))
    have:=hK s rs V (by unfold jK;rw[R,if_pos rfl,a];simp only[QP];rw[<-Q];exact r2) r;unfold qR at this;rw[R] at this;exact this
theorem JJ:zc QH dY=#[.slice none 0 0]:=by kernel_rfl
theorem Iu:zc QH Nr=#[.int .i64 0]:=by kernel_rfl
theorem Hc {p:Sl}{n:Int}{H:aa}{K:gp->aa->Prop}(i:1<=n)
  (b:∀c c1 H',c.block=H.size->c1.block=H.size+1->H'.size=H.size+2->dX H' c eK p.v->dX H' c1 jm (.int .i64 n)->Ext H H'->
   K (.func (.func Fw.no) #[] #[.pointer (some c),.pointer (some c1)]) H'):Lv.sp p n H K:=by
 refine Lv.of ?_;unfold Lv.vc;refine iU λc H1 d s1 v1 e=>?_;refine iU λc1 f g s2 v2 a=>?_;refine v2.ld (c:=ab .i64) (x:=n) ?_;refine ah (λh=>?_) (λh=>?_)
 ·simp at h;omega
 ·exact b c c1 f d (by omega) (by omega) (v1.ext a) v2 (e.trans a)
theorem Em {l:Nat}{c c1:hY}{p:Sl}{n m:Nat}{H:aa}{K:Unit->aa->Prop}(I:Nat->aa->Prop)(D:aa->Prop)(J:0<n)(hm:p.n=m*n)(L:p.n<=p.c)(t:p.n<=1000000)(A:n<=1000000)
  (u:∀k H',I k H'->dX H' c eK p.v/\dX H' c1 jm (.int .i64 (n:Int))) (B:I 0 H)
  (hs:∀k H',k<m->I k H'->cq QH l #[(Sl.mk (p.a.map (·.add (k*n))) n n).v] H' λb g=>if b then I (k+1) g else D g)
  (j:∀H',I m H'->K () H') (C:∀H',D H'->K () H'):Fw.sp l c c1 H K:=by
 refine Fw.of ?_;unfold Fw.vc;refine av m (λk i H'=>i=((k*n:Nat):Int)/\I k H') ⟨by simp,B⟩ ?_;rintro k i H1 next hk ⟨rfl,a⟩ d
 obtain⟨v,v1⟩:=u k H1 a;refine v.ld (c:=aq) (x:=p) ?_;refine ah (λh=>?_) (λh=>?_)
 ·have f:k<m:=by
   rcases RA k m with q|q
   ·exact q
   ·have e:k=m:=by omega
    subst e;simp at h;omega
  have hle:k*n+n<=p.n:=by
   have:=Rq n (Ub f);rw[RQ] at this;omega
  obtain⟨q,w⟩:∃q,q=k*n:=⟨_,rfl⟩;have s:(((k+1)*n:Nat):Int)=((q+n:Nat):Int):=by rw[w,RQ]
  have o:=hs k H1 f a;rw[<-w] at hle o ⊢;refine v1.ld (c:=ab .i64) (x:=(n:Int)) ?_;refine v.ld (c:=aq) (x:=p) ?_;refine⟨by omega,?_⟩;refine v.ld (c:=aq) (x:=p) ?_;have E:QI.wrap ((q:Int)+(if ((p.n - (q:Int).toNat:Nat):Int)<(n:Int) then ((p.n - (q:Int).toNat:Nat):Int) else (n:Int)))=((q+n:Nat):Int):=by
   have:(if ((p.n - (q:Int).toNat:Nat):Int)<(n:Int) then ((p.n - (q:Int).toNat:Nat):Int) else (n:Int))=(n:Int):=by split<;>omega
   rw[this,wrap64 (by omega) (by omega)];omega
  rw[E];refine⟨by omega,by omega,by omega,?_⟩;have F:cM p.a ((q+n:Nat):Int).toNat (q:Int).toNat 1=p.a.map (·.add q):=by
   unfold cM;rw[if_neg (by simp;omega)];simp
  have G:((q+n:Nat):Int).toNat - (q:Int).toNat=n:=by omega
  rw[F,G];refine o.mono λb y z=>?_;cases b with
  |false=>exact C y z
  |true=>
    have r:I (k+1) y:=z;refine(u _ _ r).2.ld (c:=ab .i64) (x:=(n:Int)) ?_;refine d f _ _ ⟨?_,r⟩;rw[s,wrap64 (by omega) (by omega)];omega
 ·have e:k=m:=by
   rcases RA k m with q|q
   ·have:=Rq n (Ub q);rw[RQ] at this;simp at h;omega
   ·omega
  subst e;exact j H1 a
theorem Ints.chunk {H:aa}{p:Sl}{b:List Int}(c:Ints .u8 H p b){k n:Nat}(hl:k*n+n<=b.length):Ints .u8 H (Sl.mk (p.a.map (·.add (k*n))) n n) (bS b n k):=by
 refine⟨by simp[bS];omega,?_⟩;intro i v a;unfold bS at a;rw[XE,List.map_drop] at a;have hi:i<n:=by
  have:=(QJ.1 a).1;simp at this;omega
 rw[RF,if_pos hi,Si] at a;obtain⟨ad,e,d⟩:=c.reads _ _ a;exact⟨ad.add (k*n),by rw[e];rfl,by rw[add_add];exact d⟩
structure rh (H0:aa)(B:Nat)(b:List Int)(w:Int)(p:Sl)(r2:Nat)(p1 p2 p3 p4 c c1:hY)(k:Nat)(H:aa):Prop where
 r2:H[r2]?=some (.deferred (some []))
 v1:dX H p1 jm (.int .i64 w)
 v2:dX H p2 dY (.slice none 0 0)
 v3:dX H p3 Nr (.int .i64 0)
 vc:dX H c eK p.v
 vc1:dX H c1 jm (.int .i64 (bI w))
 rows:∃s rs,dX H p4 dY (Sl.v s)/\s.n=k/\aJ H B s rs (rowsOf b w k)/\∀x∈rs,x.a≠none
 ext:Ext H0 H
 zero:w=0->∀j,j<k->b.getD j 0=0
theorem rh.mod {H0:aa}{B:Nat}{b:List Int}{w:Int}{p:Sl}{r2:Nat}{p1 p2 p3 p4 c c1:hY}{k:Nat}{F:Nat->Prop}{H H':aa}(h:rh H0 B b w p r2 p1 p2 p3 p4 c c1 k H)(hm:Mod F H H')
  (f:∀b,b<H0.size->¬F b) (a:∀b cs t,H[b]?=some (.cells cs t (0,0))->¬F b) (hd:∀b d,H[b]?=some (.deferred d)->¬F b):rh H0 B b w p r2 p1 p2 p3 p4 c c1 k H':=by
 obtain⟨s,rs,v4,g,ro,nn⟩:=h.rows;refine⟨(hm.same _ ?_ (hd _ _ h.r2)).trans h.r2,h.v1.mod hm (a _ _ _ h.v1.obj),h.v2.mod hm (a _ _ _ h.v2.obj),h.v3.mod hm (a _ _ _ h.v3.obj),h.vc.mod hm (a _ _ _ h.vc.obj),h.vc1.mod hm (a _ _ _ h.vc1.obj),
  ⟨s,rs,v4.mod hm (a _ _ _ v4.obj),g,ro.mod hm (λb e=>?_) (λr i b e=>?_),nn⟩,(h.ext.mod (F:=F).trans hm).ext (λb e=>?_),h.zero⟩
 ·exact(QR.1 h.r2).1
 ·obtain⟨cur,q⟩:=ro.out.obj b e;exact a _ _ _ q
 ·obtain⟨l,hl⟩:=ro.rowAt i;obtain⟨cur,q⟩:=hl.obj b e;exact a _ _ _ q
 ·rcases RA b H0.size with q|q
  ·exact absurd e (f b q)
  ·exact q
theorem rh.set {H0:aa}{B:Nat}{b:List Int}{w:Int}{p:Sl}{r2:Nat}{p1 p2 p3 p4 c c1:hY}{k l:Nat}{H:aa}{x:Loop}{o:Obj}(h:rh H0 B b w p r2 p1 p2 p3 p4 c c1 k H)(hl:H[l]?=some (.loop x))(f:H0.size<=l):
  rh H0 B b w p r2 p1 p2 p3 p4 c c1 k (H.setIfInBounds l o):=
 h.mod (F:=λb=>b=l) (Mod.setObj rfl) (λb a e=>by omega) (λb cs t a e=>by subst e;rw[hl] at a;cases a) (λb d a e=>by subst e;rw[hl] at a;cases a)
theorem rh.NQ {H0:aa}{B:Nat}{b:List Int}{w:Int}{p:Sl}{r2:Nat}{p1 p2 p3 p4 c c1:hY}{k:Nat}{H H':aa}(h:rh H0 B b w p r2 p1 p2 p3 p4 c c1 k H)(hm:Ext H H'):rh H0 B b w p r2 p1 p2 p3 p4 c c1 k H':=
 h.mod hm (λ_ _=>id) (λ_ _ _ _=>id) (λ_ _ _=>id)
set_option maxHeartbeats 4000000 in
theorem E7 {p:Sl}{b:List Int}{w:Int}{H:aa}{K:(Sl×Int)->aa->Prop}(hp:Ints .u8 H p b)(hc:p.n<=p.c)(ek:∀x∈b,0<=x/\x<256)(hlen:b.length<=1000000)
  (hK:∀s rs H',aJ H' H.size s rs (jK b w)->Ext H H'->(∀x∈rs,x.a≠none)->K (s,qR b w) H'):IQ.sp p w H K:=by
 refine IQ.of ?_;unfold IQ.vc;rw[JJ,Iu];have pn:=hp.len;refine iU λp1 H1 eF s1 v1 e1=>?_;refine iU λp2 H2 eG s2 v2 e2=>?_;refine iU λp3 H3 eH s3 v3 e3=>?_;have ck:=(v1.ext e2).ext e3;have cm:=v2.ext e3;have bb:Ext H H3:=(e1.trans e2).trans e3;refine ck.ld (c:=ab .i64) (x:=w) ?_
 -- the answer where the width is not one
 have bad:∀H4:aa,dX H4 p2 dY (.slice none 0 0)->dX H4 p3 Nr (.int .i64 60)->Ext H H4->eU b w=false->
   ld aq H4 p2 λres=>ld (ab .i64) H4 p3 λO=>K (res,O) H4:=by
  intro H4 q2 Z e hf;refine q2.ld (c:=aq) (x:=Sl.mk none 0 0) ?_;refine Z.ld (c:=ab .i64) (x:=60) ?_;have:=hK (Sl.mk none 0 0) [] H4 (by unfold jK;rw[hf];exact aJ.nil _ _) e (by simp);unfold qR at this;rw[hf] at this;exact this
 have bB:eU b w=false->st H3 p2 (.slice none 0 0) λH5=>st H5 p3 (.int .i64 60) λH6=>ld aq H6 p2 λres=>ld (ab .i64) H6 p3 λO=>K (res,O) H6:=by
  intro hf;refine cm.st rfl λH5 q2 m5 s5=>?_;refine(v3.mod m5 (by omega)).st rfl λH6 Z m6 s6=>?_;exact bad H6 (q2.mod m6 (by omega)) Z (((bb.mod (F:=λb=>b=p2.block\/b=p3.block).trans (m5.mono (λb _ h=>.inl h))).trans (m6.mono (λb _ h=>.inr h))).ext (λb a=>by omega)) hf
 refine uL ?_;refine ah (λh=>bB (by unfold eU;simp at h;simp[h])) (λh=>?_);have h':bI w≠0:=by simpa using h
 have eI:=fS w;refine⟨h',ah (λh2=>bB (by unfold eU;rw[pn] at h2;simp at h2;simp[h2])) (λh2=>?_)⟩;have cx:RP (b.length:Int) (bI w)=0:=by rw[pn] at h2;simpa using h2
 obtain⟨n,hn⟩:∃n:Nat,bI w=(n:Int):=⟨(bI w).toNat,by omega⟩;have bd:0<n:=by omega
 obtain⟨m,hm⟩:∃m,m=b.length/n:=⟨_,rfl⟩;have hmul:b.length=m*n:=by rw[hm];exact tmod_zero bd (by rw[<-hn];exact cx)
 have en:0<=w/\w<=16:=by
  unfold bI at h';split at h'
  ·exact absurd rfl h'
  ·omega
 have cy:w≠0->n=8*w.toNat:=by
  intro hw;unfold bI at hn;rw[if_neg (by omega),if_neg hw] at hn;omega
 have cz:w=0->n=1:=by intro hw;unfold bI at hn;rw[hw] at hn;simp at hn;omega
 have hdiv:m<=b.length:=by rw[hm];exact VK _ _
 have ediv:QI.wrap (Rt (p.n:Int) (bI w))=((m:Nat):Int):=by
  rw[pn,hn,<-ZI,<-hm,wrap64 (by omega) (by omega)]
 refine⟨h',?_⟩;rw[ediv];refine uS.make (base:=H.size) (by omega) (by omega) (by omega) (by omega) bb.size ?_;intro sl H9 n9 o9 e9 b9 _;refine iU λp4 eW e4 e5 v4 eo=>?_;refine v4.st rfl λcB ep m11 e6=>?_;have bC:Ext H9 cB:=(eo.mod (F:=λb=>b=p4.block).trans m11).ext (λb a=>by omega);have U:Ext H cB:=(bb.trans e9).trans bC;refine Hc (by omega) λc c1 bh e7 eE e8 vc vc1 X=>?_;have P:c6 QH Fw.no=true:=by kernel_rfl
 refine⟨Fw.no,#[.pointer (some c),.pointer (some c1)],rfl,P,λrec d=>?_⟩;obtain⟨l,hl⟩:∃l,l=bh.size+1:=⟨_,rfl⟩;obtain⟨r2,c0⟩:∃r,r=bh.size:=⟨_,rfl⟩;rw[<-hl] at d ⊢;rw[<-c0];obtain⟨A,V⟩:∃A:aa,A=(bh.push (.deferred (some []))).push (.loop (rec .ready none)):=⟨_,rfl⟩;rw[<-V];have af:Ext bh A:=by rw[V];exact(Mod.push _ _ _).trans (Mod.push _ _ _)
 have c3:A[l]?=some (.loop (rec .ready none)):=by rw[V,hl,TM,if_pos (by simp)]
 have c4:A[r2]?=some (.deferred (some [])):=by rw[V,c0];simp[TM]
 have b2:H.size<=l:=by have:=(U.trans X).size;omega
 have c5:p2.block≠p4.block:=by have:=e9.size;omega
 have bD:Ext H9 A:=(bC.trans X).trans af;have al:Ext H3 A:=e9.trans bD
 -- between the rounds
 let I:Nat->aa->Prop:=λk H'=>H'[l]?=some (.loop (rec .ready none))/\rh H H.size b w p r2 p1 p2 p3 p4 c c1 k H'
 let D:aa->Prop:=λH'=>H'[l]?=some (.loop (rec .done (some .ret)))/\H'[r2]?=some (.deferred (some []))/\dX H' p2 dY (.slice none 0 0)/\dX H' p3 Nr (.int .i64 60)/\Ext H H'/\eU b w=false
 refine Spec.mono (R:=λv H'=>∃x:Unit,v=(aW []).enc x/\oS l rec H' _ _ _) (Em (l:=l) (c:=c) (c1:=c1) (p:=p) (n:=n) (m:=m) (H:=A) (K:=λ_ H'=>oS l rec H' _ _ _) I D bd (by rw[pn];exact hmul) hc (by omega) (by omega) ?_ ?_ ?_ ?_ ?_) (λv H' ⟨x,_,h⟩=>h)
 ·clear d;rintro k H' ⟨_,g⟩;exact⟨g.vc,by have:=g.vc1;rw[hn] at this;exact this⟩
 ·clear d;refine⟨c3,c4,ck.ext al,cm.ext al,v3.ext al,vc.ext af,vc1.ext af,⟨sl,[],(ep.ext X).ext af,by simpa using n9,⟨by simpa using o9.ext bD,rfl,by simp,by simp⟩,by simp⟩,(U.trans X).trans af,λ_ j hj=>by omega⟩
 ·-- a round
  rintro k H' hk ⟨y,g⟩;refine d [(Sl.mk (p.a.map (·.add (k*n))) n n).v] H' _ y ?_;clear d;have dc:k*n+n<=b.length:=by
   have:=Rq n (Ub hk);rw[RQ] at this;omega
  have er:k<b.length:=by have:=WB k bd;omega
  have et:=mX hmul hk;show _/\_;refine⟨y,?_⟩;obtain⟨Hb,b3⟩:∃Hb:aa,Hb=H'.setIfInBounds l (.loop (rec .busy none)):=⟨_,rfl⟩;rw[<-b3];have u:rh H H.size b w p r2 p1 p2 p3 p4 c c1 k Hb:=by rw[b3];exact g.set y b2
  have Y:Hb[l]?=some (.loop (rec .busy none)):=by rw[b3];exact gS y
  refine⟨λ_ dk=>Hb=dk/\(w=0->b.getD k 0=0),?_,?_⟩
  ·refine u.v1.ld (c:=ab .i64) (x:=w) ?_;refine ah (λh4=>?_) (λh4=>⟨rfl,λhw=>by simp at h4;exact absurd hw h4⟩);have hw:w=0:=by simpa using h4
   have eu:=(hp.ext u.ext).chunk dc;refine jW eu (i:=0) (j:=0) rfl (by omega) λad q=>?_;rw[qf bd,cz hw];have e0:k*1+0=k:=by omega
   rw[e0];refine ah (λh5=>?_) (λh5=>⟨rfl,λ_=>by simpa using h5⟩);have hf:=wZ hw er (by simpa using h5);refine u.v2.st rfl λfa q2 m15 fb=>?_;have B:p3.block≠p2.block:=by omega
   refine(u.v3.mod m15 B).st rfl λQ Z m16 ff=>?_;have mm:Mod (λb=>b=p2.block\/b=p3.block) Hb Q:=(m15.mono (λb _ h=>.inl h)).trans (m16.mono (λb _ h=>.inr h));have ev:l<Hb.size:=(QR.1 Y).1;have b4:Q[l]?=some (.loop (rec .busy none)):=(mm.same l ev (by
    rintro(e|e)
    ·have:=u.v2.obj;rw[<-e,Y] at this;cases this
    ·have:=u.v3.obj;rw[<-e,Y] at this;cases this)).trans Y
   have bl:r2<Hb.size:=(QR.1 u.r2).1;have bM:Q[r2]?=some (.deferred (some [])):=(mm.same r2 bl (by
    rintro(e|e)
    ·have:=u.v2.obj;rw[<-e,u.r2] at this;cases this
    ·have:=u.v3.obj;rw[<-e,u.r2] at this;cases this)).trans u.r2
   refine⟨b4,?_⟩;show D _;have m17:Mod (λb=>b=l) Q (Q.setIfInBounds l (.loop (rec .done (some .ret)))):=Mod.setObj rfl;have C:∀q:hY,∀t v,dX Q q t v->q.block≠l:=λq t v hv e=>by have:=hv.obj;rw[e,b4] at this;cases this
   have E:=q2.mod m16 (Sg B);refine⟨gS b4,(m17.same r2 (QR.1 bM).1 (by omega)).trans bM,E.mod m17 (C _ _ _ E),Z.mod m17 (C _ _ _ Z),?_,hf⟩;have ew:Ext H Q:=(u.ext.mod (F:=λb=>b=p2.block\/b=p3.block).trans mm).ext (λb a=>by omega);exact(ew.mod (F:=λb=>b=l).trans m17).ext (λb a=>by omega)
  ·rintro _ dk ⟨rfl,hzero⟩;refine u.v1.ld (c:=ab .i64) (x:=w) ?_;refine jR.make (base:=H.size) en.1 (TG _) (by omega) (by omega) u.ext.size ?_;intro bn fj n17 ey dm dn dA;have g17:=u.NQ dm;refine g17.v1.ld (c:=ab .i64) (x:=w) ?_;rw[wrap64 (x:=8*w) (by omega) (by omega)];refine av (8*w.toNat) (λi z H'=>z=(i:Int)/\aO H' H.size fM 1 bn ((rowOf ((bS b n k).take i) w.toNat).map (QT .u64))/\Ext Hb H') ⟨rfl,by simpa[DK] using ey,dm⟩ ?_;rintro i z bs next hi ⟨rfl,bx,o⟩ b5
   refine ah (λh6=>?_) (λh6=>?_)
   ·have dB:i<8*w.toNat:=by simp at h6;omega
    have hw:w≠0:=by omega
    have fo:=cy hw;have ei:QI.wrap (Rt (i:Int) 8)=((i/8:Nat):Int):=by
     rw[show (8:Int)=((8:Nat):Int) from rfl,<-ZI,wrap64 (by omega) (by omega)]
    rw[ei];have hq:i/8<w.toNat:=by omega
    refine bx.ints.ld (by omega) (by rw[gv];omega) λfv G=>?_;refine((hp.ext (u.ext.trans o)).chunk dc).ld (by omega) (by omega) λfy q2=>?_;simp only[QP];have hr:=iP ((((bS b n k).take i).drop (8*(i/8))).take 8);have hx:(rowOf ((bS b n k).take i) w.toNat).getD (i/8) 0=cp ((((bS b n k).take i).drop (8*(i/8))).take 8):=by
     simp only[rowOf,RY,QV,Wp hq,UJ,Ug]
    have dD:0<=(bS b n k).getD i 0/\(bS b n k).getD i 0<256:=by
     have dT:i<(bS b n k).length:=by omega
     simp only[RY,QK dT,Ug];exact ek _ (List.mem_of_mem_drop (RU (Re dT)))
    rw[HC (by rw[hx];exact hr.1) (by rw[hx];exact hr.2) dD.1 dD.2];refine bx.st (by omega) (by rw[n17];omega) rfl λfA ea m19 fB=>?_;refine b5 dB _ _ ⟨by rw[aD i (by omega)],?_,(o.mod (F:=ai bn).trans m19).ext dn⟩;rw[<-BW (by omega) (by omega)];simp only[QP,<-R9] at ea;exact ea
   ·have dB:i=8*w.toNat:=by simp at h6;omega
    have b6:rowOf ((bS b n k).take i) w.toNat=rowOf (bS b n k) w.toNat:=by
     by_cases hw:w=0
     ·rw[hw];rfl
     ·rw[QS (by rw[et,cy hw];omega)]
    rw[b6] at bx;have g18:=u.NQ o;obtain⟨s,rs,J,eA,ro,nn⟩:=u.rows;have L:=ro.ext o;refine(J.ext o).ld (c:=aq) (x:=s) ?_;refine L.push bx (λr' eB x hx eC=>?_) (by omega) (u.ext.trans o).size ?_
    ·have h1:=(ro.block.2 r' eB x eC).2;have h2:=dn x hx;omega
    intro s7 eb n21 eD m21;have an:¬ai s p4.block:=λa=>by
     obtain⟨cur,q⟩:=L.out.obj _ a;exact absurd (aM q (J.ext o).obj) (by decide)
    refine((J.ext o).mod m21 an).st rfl λbA v22 m22 fE=>?_;have ec:∀b,ai s b->H.size<=b:=λb a=>(ro.block.1 b a).1;have a1:bs[l]?=some (.loop (rec .busy none)):=(o.same l (QR.1 Y).1 id).trans Y;have a6:eb[l]?=some (.loop (rec .busy none)):=(m21.same l (QR.1 a1).1 (λa=>by
     obtain⟨cur,q⟩:=L.out.obj _ a;rw[a1] at q;cases q)).trans a1
    have a7:bA[l]?=some (.loop (rec .busy none)):=(m22.same l (QR.1 a6).1 (λa=>by
     have q:=(J.ext o).mod m21 an;have:=q.obj;rw[<-a,a6] at this;cases this)).trans a6
    refine⟨a7,?_⟩;show I (k+1) _;have mm:Mod (λb=>ai s b\/b=p4.block) bs bA:=(m21.mono (λb _ h=>.inl h)).trans (m22.mono (λb _ h=>.inr h));have ar:∀{q:hY} {t:ic} {v:gp},dX bs q t v->t≠dv->q.block≠p4.block->dX bA q t v:=by
     intro q t v hv ht hq;refine hv.mod mm ?_;rintro(a|a)
     ·obtain⟨cur,G⟩:=L.out.obj _ a;have:=hv.obj;rw[this] at G;simp at G;exact ht G.2
     ·exact hq a
    have g22:rh H H.size b w p r2 p1 p2 p3 p4 c c1 (k+1) bA:=by
     have ed:r2<bs.size:=(QR.1 g18.r2).1;refine⟨(mm.same r2 ed ?_).trans g18.r2,ar g18.v1 (by decide) (by have:=e9.size;omega),ar g18.v2 (by decide) c5,ar g18.v3 (by decide) (by have:=e9.size;omega),ar g18.vc (by decide) (by have:=e9.size;omega),ar g18.vc1 (by decide) (by have:=e9.size;omega),⟨s7,rs++[bn],v22,by omega,?_,λx hx=>by rcases QQ.1 hx with q|q;exact nn x q;simp at q;subst q;exact dA⟩,?_,?_⟩
     ·rintro(a|a)
      ·obtain⟨cur,G⟩:=L.out.obj _ a;rw[g18.r2] at G;cases G
      ·have:=(J.ext o).obj;rw[<-a,g18.r2] at this;cases this
     ·rw[rV,hn];have a8:aJ eb H.size s7 (rs++[bn]) (rowsOf b w k++[rowOf (bS b n k) w.toNat]):=eD;have v21:=(J.ext o).mod m21 an;refine a8.mod m22 (λb a e=>?_) (λr hr b a e=>?_)
      ·obtain⟨cur,G⟩:=a8.out.obj _ a;rw[e] at G;exact absurd (aM G v21.obj) (by decide)
      ·obtain⟨lx,b7⟩:=a8.rowAt hr;obtain⟨cur,G⟩:=b7.obj _ a;rw[e] at G;exact absurd (aM G v21.obj) (by decide)
     ·exact((Ext.mod (F:=λb=>ai s b\/b=p4.block) (u.ext.trans o)).trans mm).ext (λb a=>by
       rcases a with a|a
       ·exact ec b a
       ·have:=(bb.trans e9).size;omega)
     ·intro hw j hj;rcases RA j k with q|q
      ·exact u.zero hw j q
      ·have:j=k:=by omega
       rw[this];exact hzero hw
    exact⟨gS a7,g22.set a7 b2⟩
 ·-- all rounds are done
  clear d;rintro H' ⟨y,g⟩;refine⟨.ready,none,y,rfl,?_⟩;obtain⟨f,M⟩:∃f:aa,f=H'.setIfInBounds l (.loop (rec .exhausted none)):=⟨_,rfl⟩;show ld _ _ _ _;rw[<-M];have g2:rh H H.size b w p r2 p1 p2 p3 p4 c c1 m f:=by rw[M];exact g.set y b2
  obtain⟨s,rs,J,eA,ro,nn⟩:=g2.rows;refine J.ld (c:=aq) (x:=s) ?_;refine g2.v2.st rfl λga q2 m24 gf=>?_;have B:p3.block≠p2.block:=by omega
  refine(g2.v3.mod m24 B).st rfl λS Z ee gg=>?_;have mm:Mod (λb=>b=p2.block\/b=p3.block) f S:=(m24.mono (λb _ h=>.inl h)).trans (ee.mono (λb _ h=>.inr h));have hr:r2<f.size:=(QR.1 g2.r2).1;have bN:S[r2]?=some (.deferred (some [])):=(mm.same r2 hr (by
   rintro(e|e)
   ·have:=g2.v2.obj;rw[<-e,g2.r2] at this;cases this
   ·have:=g2.v3.obj;rw[<-e,g2.r2] at this;cases this)).trans g2.r2
  refine⟨bN,?_⟩;have cb:Mod (λb=>b=r2) S (S.setIfInBounds r2 (.deferred none)):=Mod.setObj rfl;have C:∀{q:hY} {t:ic} {v:gp},dX S q t v->¬q.block=r2:=λhv e=>by have:=hv.obj;rw[e,bN] at this;cases this
  have E:=q2.mod ee (Sg B);refine(E.mod cb (C E)).ld (c:=aq) (x:=s) ?_;refine(Z.mod cb (C Z)).ld (c:=ab .i64) (x:=0) ?_;have eg:eU b w=true:=tk h' cx (λhw j hj=>g2.zero hw j (by rw[hm,cz hw];simpa using hj));have bO:Mod (λb=>b=p2.block\/b=p3.block\/b=r2) f (S.setIfInBounds r2 (.deferred none)):=(mm.mono (λb _ h=>by rcases h with h|h;exact .inl h;exact .inr (.inl h))).trans (cb.mono (λb _ h=>.inr (.inr h)));have W:∀b cs t,f[b]?=some (.cells cs t (0,0))->t≠dY->t≠Nr->¬(b=p2.block\/b=p3.block\/b=r2):=by
   rintro b cs t a h1 h2 (e|e|e)
   ·have:=g2.v2.obj;rw[<-e,a] at this;simp at this;exact h1 this.2
   ·have:=g2.v3.obj;rw[<-e,a] at this;simp at this;exact h2 this.2
   ·rw[e,g2.r2] at a;cases a
  have:=hK s rs (S.setIfInBounds r2 (.deferred none)) (by
   unfold jK;rw[eg,if_pos rfl,hn];simp only[QP];rw[<-hm];refine ro.mod bO (λb a=>?_) (λr hr b a=>?_)
   ·obtain⟨cur,G⟩:=ro.out.obj _ a;exact W _ _ _ G (by decide) (by decide)
   ·obtain⟨lx,b7⟩:=ro.rowAt hr;obtain⟨cur,G⟩:=b7.obj _ a;exact W _ _ _ G (by decide) (by decide)) ((g2.ext.mod (F:=λb=>b=p2.block\/b=p3.block\/b=r2).trans bO).ext (λb a=>by
     have:=(U.trans X).size;omega)) nn
  unfold qR at this;rw[eg] at this;exact this
 ·-- left by a return
  clear d;rintro H' ⟨y,bl,q2,Z,e,hf⟩;refine⟨.done,some .ret,y,rfl,?_⟩;obtain⟨f,M⟩:∃f:aa,f=H'.setIfInBounds l (.loop (rec .exhausted (some .ret))):=⟨_,rfl⟩;show _/\_;rw[<-M];have m1:Mod (λb=>b=l) H' f:=by rw[M];exact Mod.setObj rfl
  have C:∀{q:hY} {t:ic} {v:gp},dX H' q t v->¬q.block=l:=λhv e=>by have:=hv.obj;rw[e,y] at this;cases this
  have b0:f[r2]?=some (.deferred (some [])):=(m1.same r2 (QR.1 bl).1 (by omega)).trans bl;refine⟨b0,?_⟩;have m2:Mod (λb=>b=r2) f (f.setIfInBounds r2 (.deferred none)):=Mod.setObj rfl;have b1:∀{q:hY} {t:ic} {v:gp},dX f q t v->¬q.block=r2:=λhv e=>by have:=hv.obj;rw[e,b0] at this;cases this
  have E:=q2.mod m1 (C q2);have ej:=Z.mod m1 (C Z);exact bad _ (E.mod m2 (b1 E)) (ej.mod m2 (b1 ej)) (((e.mod (F:=λb=>b=l\/b=r2).trans (m1.mono (λb _ h=>.inl h))).trans (m2.mono (λb _ h=>.inr h))).ext (λb a=>by
   have:=(U.trans X).size;omega)) hf
theorem wL {p:Sl}{b:List Int}{w:Int}{H:aa}{K:(Sl×Int)->aa->Prop}(c:Ints .u8 H p b)(d:p.n<=p.c)(a:∀x∈b,0<=x/\x<256)(hlen:b.length<=1000000)
  (f:∀s rs H',aJ H' H.size s rs (jK b w)->Ext H H'->K (s,qR b w) H'):IQ.sp p w H K:=E7 c d a hlen λs rs H' r e _=>f s rs H' r e
theorem zX (n:Int)(k:Nat):0<=wS n k/\wS n k<256:=by
 unfold wS;rw[IntKind.wrap_u8];omega
theorem lg (l:List Int):∀x∈fh l,0<=x/\x<256:=by
 intro x a;unfold fh at a;split at a
 ·simp at a;omega
 ·obtain⟨n,_,b⟩:=Sm.1 a;obtain⟨k,_,hk⟩:=QW.1 b;rw[<-hk];exact zX n k
def cZ (l:List Int):List UInt8:=l.map λx=>Rv x.toNat
@[simp] theorem lq (b:List UInt8):(eV b).length=b.length:=by simp[eV]
@[simp] theorem cv (b:List Int):(cZ b).length=b.length:=by simp[cZ]
theorem Bn {l:List Int}(h:∀x∈l,0<=x/\x<256):eV (cZ l)=l:=by
 unfold eV cZ;rw[R8]
 conv=>rhs;rw[<-List.map_id l]
 refine TO λx c=>?_;obtain⟨a,b⟩:=h x c;simp only[Function.comp,UInt8.toNat_ofNat',id];omega
structure Rb where
 name:ByteArray
 width:Int
 wrong:Int
 closed:Bool
def Rb.ready (b:Rb):Int:=if b.wrong≠0 then b.wrong else if b.closed then 2 else 0
def Rb.cE (b:Rb)(e:Int):Rb:=if e≠0 then {b with wrong:=e} else b
structure RW where
 b:Rb
 wait:List UInt8
 n:Nat
 last:List Int
 rows:Nat
def RW.out (w:RW)(p:Pl):Pl×RW×Int:=
 if w.n=0 then (p,w,0)
 else ((p.more w.b.name 1 w.wait).1,{w with b:=w.b.cE (p.more w.b.name 1 w.wait).2,wait:=[],n:=0},(p.more w.b.name 1 w.wait).2)
def xD (n:ByteArray)(w:Int):RW:=⟨⟨n,w,0,false⟩,[],0,[],0⟩
def bo (p:Pl)(n:ByteArray)(w:Int):Pl×Option RW×Int:=
 if aL w=0 then (p,none,60)
 else if (p.d.create n).2≠0 then (p.bJ (p.d.create n).1,none,(p.d.create n).2)
 else if ((p.bJ (p.d.create n).1).more n 0 []).2≠0 then (((p.bJ (p.d.create n).1).more n 0 []).1,none,((p.bJ (p.d.create n).1).more n 0 []).2)
 else (((p.bJ (p.d.create n).1).more n 0 []).1,some (xD n w),0)
def RW.push (w:RW)(l:List Int):RW:={w with wait:=w.wait++cZ (fh l),n:=w.n+1,last:=l,rows:=w.rows+1}
def RW.add (w:RW)(p:Pl)(l:List Int):Pl×RW×Int:=
 if w.b.ready≠0 then (p,w,w.b.ready)
 else if (l.length:Int)≠w.b.width then (p,w,60)
 else if 0<w.rows/\aX l w.last<=0 then (p,w,70)
 else if ((w.n+1:Nat):Int)<aL w.b.width then (p,w.push l,0)
 else (w.push l).out p
def ft (width:Int)(rows:Nat):List UInt8:=Rv width.toNat::cZ (fh [(rows:Int)])
def RW.head (w:RW)(p:Pl):Pl×Int:=
 if (p.bF w.b.name 0).2.2≠0 then ((p.bF w.b.name 0).1,(p.bF w.b.name 0).2.2)
 else if (Pl.leave ((p.bF w.b.name 0).1.set (p.bF w.b.name 0).2.1 2 (ft w.b.width w.rows)) (p.bF w.b.name 0).2.1).2≠0 then Pl.leave ((p.bF w.b.name 0).1.set (p.bF w.b.name 0).2.1 2 (ft w.b.width w.rows)) (p.bF w.b.name 0).2.1
 else (Pl.leave ((p.bF w.b.name 0).1.set (p.bF w.b.name 0).2.1 2 (ft w.b.width w.rows)) (p.bF w.b.name 0).2.1).1.flush w.b.name
def RW.stop (w:RW):RW:={w with b:={w.b with closed:=true}}
def RW.ends (w:RW)(p:Pl):Pl×RW×Nat×Int:=
 if (w.head p).2≠0 then ((w.head p).1,{w with b:=w.b.cE (w.head p).2},0,(w.head p).2) else ((w.head p).1,w.stop,w.rows,0)
def RW.close (w:RW)(p:Pl):Pl×RW×Nat×Int:=
 if w.b.ready≠0 then (p,w,0,w.b.ready)
 else if (w.out p).2.2≠0 then ((w.out p).1,(w.out p).2.1,0,(w.out p).2.2)
 else (w.out p).2.1.ends (w.out p).1
structure RR where
 b:Rb
 rows:Nat
 at_:Nat
 page:Option Nat
 ins:List (List Int)
def Rb.room (b:Rb):Nat:=(aL b.width).toNat
def dr (n room:Nat):Nat:=(n+room - 1)/room
def rnOpen (p:Pl)(n:ByteArray)(w:Int):Pl×Option RR×Int:=
 if aL w=0 then (p,none,60)
 else if (p.look n 0).2.2.2≠0 then ((p.look n 0).1,none,(p.look n 0).2.2.2)
 else if ¬((p.look n 0).2.1=2/\(p.look n 0).2.2.1.length=9/\(((p.look n 0).2.2.1.getD 0 0).toNat:Int)=w) then ((p.look n 0).1,none,280)
 else if ((p.look n 0).1.d.len n).2≠0 then ((p.look n 0).1,none,((p.look n 0).1.d.len n).2)
 else if cp (eV ((p.look n 0).2.2.1.drop 1))<=528482304/\((p.look n 0).1.d.len n).1=1+dr (cp (eV ((p.look n 0).2.2.1.drop 1))).toNat (aL w).toNat then
  ((p.look n 0).1,some ⟨⟨n,w,0,false⟩,(cp (eV ((p.look n 0).2.2.1.drop 1))).toNat,0,none,[]⟩,0)
 else ((p.look n 0).1,none,280)
def RR.fits (r:RR)(k:Nat)(kind:UInt8)(b:List UInt8):Bool:=
 kind==1&&eU (eV b) r.b.width&&decide ((jK (eV b) r.b.width).length=min r.b.room (r.rows - k*r.b.room))
def RR.load (r:RR)(p:Pl)(k:Nat):Pl×RR×Int:=
 if r.page=some k then (p,r,0)
 else if (p.look r.b.name ((k:Int)+1)).2.2.2≠0 then ((p.look r.b.name ((k:Int)+1)).1,{r with b:=r.b.cE (p.look r.b.name ((k:Int)+1)).2.2.2},(p.look r.b.name ((k:Int)+1)).2.2.2)
 else if r.fits k (p.look r.b.name ((k:Int)+1)).2.1 (p.look r.b.name ((k:Int)+1)).2.2.1 then
  ((p.look r.b.name ((k:Int)+1)).1,{r with page:=some k,ins:=jK (eV (p.look r.b.name ((k:Int)+1)).2.2.1) r.b.width},0)
 else ((p.look r.b.name ((k:Int)+1)).1,{r with b:=r.b.cE 280},280)
def RR.next (r:RR)(p:Pl):Pl×RR×List Int×Bool×Int:=
 if r.b.ready≠0 then (p,r,[],false,r.b.ready)
 else if r.at_=r.rows then (p,r,[],false,0)
 else if (r.load p (r.at_/r.b.room)).2.2≠0 then ((r.load p (r.at_/r.b.room)).1,(r.load p (r.at_/r.b.room)).2.1,[],false,(r.load p (r.at_/r.b.room)).2.2)
 else ((r.load p (r.at_/r.b.room)).1,{(r.load p (r.at_/r.b.room)).2.1 with at_:=r.at_+1},(r.load p (r.at_/r.b.room)).2.1.ins.getD (r.at_%r.b.room) [],true,0)
def below (low:List Int)(ls:List (List Int)):Nat:=(ls.takeWhile λl=>decide (aX l low<0)).length
def RR.stop (r:RR):RR:={r with b:={r.b with closed:=true}}
section
variable {α:Type}{lt:α->α->Prop}
def Hp (lt:α->α->Prop)(l:List α):Prop:=∀i a b,0<i->l[i]?=some a->l[(i - 1)/2]?=some b->¬lt a b
def G4 (lt:α->α->Prop)(l:List α)(k:Nat):Prop:=
 (∀i a b,0<i->i≠k->l[i]?=some a->l[(i - 1)/2]?=some b->¬lt a b)/\∀i a b,0<k->0<i->(i - 1)/2=k->l[i]?=some a->l[(k - 1)/2]?=some b->¬lt a b
def HH (lt:α->α->Prop)(l:List α)(k:Nat):Prop:=
 (∀i a b,0<i->(i - 1)/2≠k->l[i]?=some a->l[(i - 1)/2]?=some b->¬lt a b)/\∀i a b,0<k->0<i->(i - 1)/2=k->l[i]?=some a->l[(k - 1)/2]?=some b->¬lt a b
structure Ord (lt:α->α->Prop):Prop where
 asym:∀a b,lt a b->¬lt b a
 trans:∀a b c,¬lt a b->¬lt b c->¬lt a c
variable {l:List α}{k:Nat}
theorem yG {i j:Nat}{a b:α}(hi:i<l.length)(d:j<l.length)(m:Nat):((l.set i b).set j a)[m]?=if m=j then some a else if m=i then some b else l[m]?:=by
 rw[Rx];by_cases h1:j=m
 ·subst h1;rw[if_pos rfl,if_pos rfl,if_pos (by simpa using d)]
 ·rw[if_neg h1,if_neg (λq=>h1 q.symm),Rx];by_cases c:i=m
  ·subst c;rw[if_pos rfl,if_pos rfl,if_pos hi]
  ·rw[if_neg c,if_neg (λq=>c q.symm)]
theorem swap_perm {i j:Nat}{a b:α}(hi:l[i]?=some a)(c:l[j]?=some b):((l.set i b).set j a).Perm l:=by
 obtain⟨i1,i2⟩:=QJ.1 hi;obtain⟨d,e⟩:=QJ.1 c;subst i2;subst e;exact List.set_set_perm i1 d
theorem Ka (h:Hp lt l)(x:α):G4 lt (l++[x]) l.length:=by
 refine⟨λi a b e hk c d=>?_,λi a b e h1 f c d=>?_⟩
 ·have hi:i<l.length:=by
   have:=(QJ.1 c).1;simp at this;omega
  rw[Rf hi] at c;rw[Rf (by omega)] at d;exact h i a b e c d
 ·have:=(QJ.1 c).1;simp at this;omega
theorem uu (h:G4 lt l k)(hs:∀a b,0<k->l[k]?=some a->l[(k - 1)/2]?=some b->¬lt a b):Hp lt l:=λi a b c d f=>by
 by_cases e:i=k
 ·subst e;exact hs a b c d f
 ·exact h.1 i a b c e d f
theorem Bz (o:Ord lt)(h:G4 lt l k){a b:α}(r:0<k)(s:l[k]?=some a)(f:l[(k - 1)/2]?=some b)(hl:lt a b):G4 lt ((l.set k b).set ((k - 1)/2) a) ((k - 1)/2):=by
 have t:=(QJ.1 s).1;have u:=(QJ.1 f).1;have g:=λm=>yG (l:=l) (a:=a) (b:=b) t u m;refine⟨λi x y i0 hi c d=>?_,λi x y v i0 hi c d=>?_⟩
 ·rw[g,if_neg hi] at c;rw[g] at d;by_cases e:i=k
  ·subst e;rw[if_pos rfl] at c;cases c;rw[if_pos rfl] at d;cases d;exact o.asym _ _ hl
  ·rw[if_neg e] at c;split at d
   ·rename_i q;cases d;have:=h.1 i x b i0 e c (by rw[q];exact f);exact o.trans _ _ _ this (o.asym _ _ hl)
   ·split at d
    ·rename_i q;cases d;exact h.2 i x b r i0 q c f
    ·exact h.1 i x y i0 e c d
 ·rw[g,if_neg (by omega)] at c;rw[g,if_neg (by omega),if_neg (by omega)] at d;have j:=h.1 ((k - 1)/2) b y v (by omega) f d;by_cases e:i=k
  ·subst e;rw[if_pos rfl] at c;cases c;exact j
  ·rw[if_neg e] at c;exact o.trans _ _ _ (h.1 i x b i0 e c (by rw[hi];exact f)) j
theorem Ch (h:HH lt l k)(hs:∀i a b,0<i->(i - 1)/2=k->l[i]?=some a->l[k]?=some b->¬lt a b):Hp lt l:=λi a b c d f=>by
 by_cases e:(i - 1)/2=k
 ·exact hs i a b c e d (by rw[<-e];exact f)
 ·exact h.1 i a b c e d f
theorem BM (o:Ord lt)(h:HH lt l k){c:Nat}{a x:α}(j:(c - 1)/2=k)(u:0<c)(v:l[k]?=some a)(r:l[c]?=some x)(hl:lt x a)(hd:∀d y,0<d->(d - 1)/2=k->l[d]?=some y->¬lt y x):HH lt ((l.set k x).set c a) c:=by
 have w:=(QJ.1 v).1;have A:=(QJ.1 r).1;have g:=λm=>yG (l:=l) (a:=a) (b:=x) w A m;refine⟨λi y z i0 hi f e=>?_,λi y z _ i0 hi f e=>?_⟩
 ·rw[g] at f e;rw[if_neg hi] at e;by_cases s:i=c
  ·subst s;rw[if_pos rfl] at f;cases f;rw[if_pos j] at e;cases e;exact o.asym _ _ hl
  ·rw[if_neg s] at f;by_cases t:i=k
   ·subst t;rw[if_pos rfl] at f;cases f;rw[if_neg (by omega)] at e;exact h.2 c x z i0 u j r e
   ·rw[if_neg t] at f;by_cases q:(i - 1)/2=k
    ·rw[if_pos q] at e;cases e;exact hd i y i0 q f
    ·rw[if_neg q] at e;exact h.1 i y z i0 q f e
 ·rw[g,if_neg (by omega),if_neg (by omega)] at f;rw[g,if_neg (by omega),if_pos j] at e;cases e;exact h.1 i y x i0 (by omega) f (by rw[hi];exact r)
theorem Iv (o:Ord lt)(h:Hp lt l){a:α}(e:l[0]?=some a):∀(i:Nat) (b:α),l[i]?=some b->¬lt b a:=by
 intro i
 induction i using Nat.strongRecOn with
 |ind i f=>
   intro b c;rcases Ww i with q|q
   ·subst q;rw[e] at c;cases c;exact λu=>o.asym _ _ u u
   ·have hi:=(QJ.1 c).1;have d:l[(i - 1)/2]?=some l[(i - 1)/2]:=QK (by omega);exact o.trans _ _ _ (h i b _ q c d) (f _ (by omega) _ d)
theorem Ny (h:Hp lt l){a z:α}{n:Nat}(e:l.length=n+1)(f:l[0]?=some a)(g:l[n]?=some z):HH lt ((l.set 0 z).take n) 0/\l.Perm (a::(l.set 0 z).take n):=by
 refine⟨⟨λi x y i0 hi c d=>?_,λi x y j=>absurd j (Yv _)⟩,?_⟩
 ·rw[RF] at c d;split at c
  ·split at d
   ·rw[Rx,if_neg (by omega)] at c;rw[Rx,if_neg (λq=>hi q.symm)] at d;exact h i x y i0 c d
   ·cases d
  ·cases c
 ·cases l with
  |nil=>simp at e
  |cons b t=>
    simp at f e;subst f;rw[List.set_cons_zero];cases n with
    |zero=>
      have:t=[]:=Ra e;subst this;exact .refl _
    |succ n=>
      refine .cons _ ?_;rw[RV] at g;obtain⟨h1,m⟩:=QJ.1 g;rw[List.take_succ_cons];have:t=t.take n++[z]:=by
       have:=List.take_append_getElem h1;rw[m,QS (i:=n+1) (by omega)] at this;exact this.symm
      conv=>lhs;rw[this]
      exact List.perm_append_singleton _ _
end
section
open Go.MapKept
theorem Gn {P:hQ}{g:FuncId}{a:Array gp}{args:List gp}{H:aa}{K:Bool->aa->Prop}(arr:Array gp)(b:(args++a.toList).toArray=arr)(c:c6 P g=true)(h:ak aC P g arr H K):Au P (.func (.func g) #[] a) args H K:=by
 unfold Au;simp only[c,cond_true];subst b;simpa using h
section
variable {P:hQ}{t kt et:ic}{d:TypeDesc}{H:aa}{r:Nat}{es:Array nW}{clk:Nat}{k:gp}
end
end
section
open Go.ChangeShapes Go.WideShapes Go.ChangeAt Go.RowKit
end

theorem fF:∀{a b c:List Int},aX a b<0->aX b c<0->aX a c<0
 |[],[],_,h,_=>by simp[aX] at h
 |[],_::_,[],_,h=>by simp[aX] at h
 |[],_::_,_::_,_,_=>by simp[aX]
 |_::_,[],_,h,_=>by simp[aX] at h
 |_::_,_::_,[],_,h=>by simp[aX] at h
 |x::a,y::b,z::c,h1,e=>by
   simp only[aX] at h1 e ⊢;have f:=@fF a b c;split at h1
   ·split at e
    ·rw[if_pos (by omega)];decide
    ·split at e
     ·omega
     ·rw[if_pos (by omega)];decide
   ·split at h1
    ·omega
    ·split at e
     ·rw[if_pos (by omega)];decide
     ·split at e
      ·omega
      ·rw[if_neg (by omega),if_neg (by omega)];exact f h1 e
theorem KS {a b:List Int}:0<aX a b↔aX b a<0:=by rw[bZ b a];omega
theorem gN (a:List Int):aX a a=0:=cr.2 rfl
def KH (W:Nat):Nat:=if W=0 then 1 else 8*W
def zL (W:Nat):Nat:=504/KH W
theorem I4 (W:Nat):1<=KH W:=by unfold KH;split<;>omega
theorem ie {W:Nat}(h1:0<=W)(a:W<=16):aL W=((zL W:Nat):Int)/\3<=zL W/\zL W*KH W<=504/\zL W<=504:=by
 have hs:bI W=(KH W:Int):=by
  unfold bI KH;rw[if_neg (by omega)];by_cases h:W=0
  ·rw[if_pos (by omega),if_pos h];rfl
  ·rw[if_neg (by omega),if_neg h];omega
 have b:=I4 W;have hm:KH W<=128:=by unfold KH;split<;>omega
 refine⟨?_,?_,Xi _ _,VK _ _⟩
 ·unfold aL;rw[if_neg (by rw[hs];omega),hs,TT (by omega)];exact(Int.natCast_ediv 504 (KH W)).symm
 ·unfold zL;rw[Nat.le_div_iff_mul_le (by omega)];omega
def xC (l:List Int):List UInt8:=cZ (fh l)
section
variable {p:Pl}{w:RW}{n:ByteArray}{W:Nat}{rs:List (List Int)}{q i:Nat}
end
section
open Go.MapKept
structure Hx where
 no:Nat
 sl:Sl
 ptr:Option hY
 row:List Int
def Fu (x:Hx):List gp:=[.int .i64 (x.no:Int),x.sl.v,.pointer x.ptr]
def M4:eZ Hx:=⟨3,Fu,λ_=>rfl,λx u hu=>by
 simp[Fu] at hu;rcases hu with rfl|rfl|rfl<;>rfl⟩
theorem OO:tc QH OH kC 3 40:=fe (by kernel_rfl)
theorem xV:(zc QH kC).size=3:=by kernel_rfl
theorem nS:nk QH kC 3=true:=by kernel_rfl
theorem AU:c6 QH Fv.no=true:=by kernel_rfl
def ahead (a b:Hx):Prop:=aX a.row b.row<0\/(aX a.row b.row=0/\a.no<b.no)
instance (a b:Hx):Decidable (ahead a b):=by unfold ahead;exact inferInstance
theorem fO:Ord ahead:=by
 refine⟨λa b h k=>?_,λa b c h k l=>?_⟩
 ·have:=bZ a.row b.row;rcases h with h|⟨h,g⟩<;>rcases k with k|⟨k,j⟩<;>omega
 ·unfold ahead at h k l;have s1:=bZ a.row b.row;have s2:=bZ b.row c.row;have m:=bZ a.row c.row;rcases XM (aX a.row b.row) 0 with u|u|u
  ·exact h (.inl u)
  ·rw[cr.1 u] at l m;rcases XM (aX b.row c.row) 0 with v|v|v
   ·exact k (.inl v)
   ·have g:¬a.no<b.no:=λq=>h (.inr ⟨u,q⟩);have j:¬b.no<c.no:=λq=>k (.inr ⟨v,q⟩);rcases l with l|⟨_,l⟩<;>omega
   ·rcases l with l|⟨l,_⟩<;>omega
  ·have e:aX b.row a.row<0:=by omega
   rcases XM (aX b.row c.row) 0 with v|v|v
   ·exact k (.inl v)
   ·rw[<-cr.1 v] at l;rcases l with l|⟨l,_⟩<;>omega
   ·have f:aX c.row b.row<0:=by omega
    have:=fF f e;rcases l with l|⟨l,_⟩<;>omega
section
variable {H:aa}
theorem Gg {a b:Hx}{K:Bool->aa->Prop}(u:Ints .u64 H a.sl a.row)(v:Ints .u64 H b.sl b.row)(hl:a.row.length<1099511627776)(g:∀H',Ext H H'->K (decide (ahead a b)) H'):Fv.sp a.no a.sl a.ptr b.no b.sl b.ptr H K:=by
 refine Fv.of ?_;unfold Fv.vc;refine au λH1 z o y=>?_;refine au λs z2 r2 h=>?_;have e:Ext H s:=y.trans h;have g:=g s e;refine ao.ld (c:=aq) (i:=1) (x:=a.sl) (o.ext h) rfl ?_;refine ao.ld (c:=aq) (i:=1) (x:=b.sl) r2 rfl ?_;refine gU (u.ext e) (v.ext e) hl ?_;refine ah (λj=>?_) (λj=>?_)
 ·have h1:¬aX a.row b.row<0:=by simpa using j
  refine ah (λf=>?_) (λf=>?_)
  ·have m:aX a.row b.row=0:=by simpa using f
   refine ao.ld (c:=ab .i64) (i:=0) (x:=(a.no:Int)) (o.ext h) rfl ?_;refine ao.ld (c:=ab .i64) (i:=0) (x:=(b.no:Int)) r2 rfl ?_;have:decide ((a.no:Int)<(b.no:Int))=decide (ahead a b):=by
    unfold ahead;refine decide_eq_decide.2 ⟨λq=>.inr ⟨m,by omega⟩,λq=>?_⟩;rcases q with q|⟨_,q⟩<;>omega
   rw[this];exact g
  ·have m:¬aX a.row b.row=0:=by simpa using f
   have:false=decide (ahead a b):=(decide_eq_false (λq=>by rcases q with q|⟨q,_⟩;exact h1 q;exact m q)).symm;rw[this];exact g
 ·have h1:aX a.row b.row<0:=by simpa using j
  have:true=decide (ahead a b):=(decide_eq_true (.inl h1)).symm;rw[this];exact g
set_option maxRecDepth 100000 in
theorem vK {a b:Hx}{K:Bool->aa->Prop}(c:Ints .u64 H a.sl a.row)(e:Ints .u64 H b.sl b.row)(hl:a.row.length<1099511627776)(f:∀H',Ext H H'->K (decide (ahead a b)) H'):
  Au QH (.func (.func Fv.no) #[] #[]) [(.agg #[.int .i64 (a.no:Int),a.sl.v,.pointer a.ptr]),(.agg #[.int .i64 (b.no:Int),b.sl.v,.pointer b.ptr])] H K:=
 Gn #[(.agg #[.int .i64 (a.no:Int),a.sl.v,.pointer a.ptr]),(.agg #[.int .i64 (b.no:Int),b.sl.v,.pointer b.ptr])] rfl AU (Gg c e hl f)
def wF:gp:=.func (.func Fv.no) #[] #[]
structure oW (H:aa)(kh:Nat)(s:Sl)(L:List Hx):Prop where
 row:ao H kh N8 #[s.v,wF]
 els:aF M4 kC H s L
 own:∀x∈L,aO H 0 fM 1 x.sl (x.row.map (QT .u64))
 iY:∀x∈L,x.row.length<=16
variable {kh:Nat}{s:Sl}{L:List Hx}
theorem oW.off (h:oW H kh s L):¬ai s kh:=λq=>by
 obtain⟨cur,a⟩:=h.els.obj kh q;exact absurd (aM a h.row) (by decide)
theorem oW.jd {x:Hx}(h:oW H kh s L)(a:aO H 0 fM 1 x.sl (x.row.map (QT .u64))):∀b,ai x.sl b->b≠kh/\¬ai s b:=λb c=>by
 refine⟨λq=>?_,λq=>a.apart h.els (by decide) b c q⟩;subst q;obtain⟨cur,e⟩:=a.obj b c;exact absurd (aM e h.row) (by decide)
theorem oW.mod {G:Nat->Prop}{H':aa}(h:oW H kh s L)(m:Mod G H H')(h1:¬G kh)(c:∀b,ai s b->¬G b)(e:∀x∈L,∀b,ai x.sl b->¬G b):oW H' kh s L:=
 ⟨h.row.mod m h1,h.els.mod m c,λx a=>(h.own x a).mod m (e x a),h.iY⟩
theorem oW.ext {H':aa}(h:oW H kh s L)(e:Ext H H'):oW H' kh s L:=h.mod e id (λ_ _=>id) λ_ _ _ _=>id
theorem oW.get (h:oW H kh s L){i:Nat}{x:Hx}(hi:L[i]?=some x):∃ad,s.a=some ad/\i<s.n/\∀{n:Nat} {K:(Int×Sl×Option hY)->Prop},n=i*3->K ((x.no:Int),x.sl,x.ptr)->cN (bR [(ab .i64),aq,aB]) 3 H (ad.add n) K:=by
 obtain⟨ad,b⟩:=h.els.rd.addr (by decide) (by have:=(QJ.1 hi).1;omega);have a:=aF.n h.els (by decide);refine⟨ad,b,by rw[a];exact(QJ.1 hi).1,λa c=>h.els.rd.cN b hi (y:=((x.no:Int),x.sl,x.ptr)) rfl a rfl c⟩
theorem oW.put {y:Hx}(h:oW H kh s L){i:Nat}(hi:i<L.length)(f:aO H 0 fM 1 y.sl (y.row.map (QT .u64)))(a:y.row.length<=16){ad:hY}(g:s.a=some ad){n:Nat}(j:n=i*3){K:aa->Prop}(u:∀H',oW H' kh s (L.set i y)->Mod (ai s) H H'->K H'):
  jo QH (Q3 kC (.pointer (some (ad.add n))) (.agg #[.int .i64 (y.no:Int),y.sl.v,.pointer y.ptr])) H K:=by
 refine aF.Oe (y:=y) h.els g hi rfl nS j λH' o m z=>u H' ⟨h.row.mod m h.off,o,λx c=>?_,λx c=>?_⟩ m
 ·rcases SH c with q|q
  ·exact(h.own x q).mod m λb e=>(h.jd (h.own x q) b e).2
  ·subst q;exact f.mod m λb e=>(h.jd f b e).2
 ·rcases SH c with q|q
  ·exact h.iY x q
  ·subst q;exact a
theorem oW.ints {x:Hx}(h:oW H kh s L)(a:x∈L):Ints .u64 H x.sl x.row:=(h.own x a).ints
theorem OV {k:Nat}(a:0<k)(hk:k<1099511627776):QI.wrap (Rt (QI.wrap ((k:Int) - 1)) 2)=(((k - 1)/2:Nat):Int):=by
 rw[wrap64 (x:=(k:Int) - 1) (by omega) (by omega)];have e:(k:Int) - 1=((k - 1:Nat):Int):=by omega
 rw[e,TT (by omega),wrap64 (by omega) (by omega)];omega
set_option maxRecDepth 100000 in
theorem HY {x:Hx}{K:Unit->aa->Prop}(h:oW H kh s L)(hp:Hp ahead L)(hx:aO H 0 fM 1 x.sl (x.row.map (QT .u64)))(Q:x.row.length<=16)(hl:L.length<=1000000)
  (hK:∀s' g H',oW H' kh s' g->Hp ahead g->g.Perm (L++[x])->Mod (λb=>b=kh\/ai s b) H H'->(∀b,ai s' b->ai s b\/H.size<=b)->K () H'):LB.sp (aK kh) (x.no:Int) x.sl x.ptr H K:=by
 refine LB.of ?_;unfold LB.vc;unfold aK;simp only[aw];refine au λH1 z1 r1 e1=>?_;have h1:=h.ext e1;refine⟨λA=>ao A kh N8 #[s.v,wF],h1.row,?_⟩;refine ao.dE (c:=aq) (i:=0) (x:=s) (cs:=λ_=>_) (λ_ q=>q) (λ_ _=>rfl) ?_;refine ao.cN (x:=((x.no:Int),x.sl,x.ptr)) r1 rfl rfl ?_;have hlen:L.length+1<=1000001:=by omega
 refine aF.CF (E:=M4) (x:=x) OO h1.els rfl (by omega) (by omega) (λA=>ao A kh N8 #[s.v,wF]) (λA _ e=>h1.row.ext e) λs' H3 o3 g3 _=>?_;have m3:=g3.1;have r3:ao H3 kh N8 #[s.v,wF]:=h1.row.mod m3 h1.off;have lt:=aI h.row;have R:¬ai s' kh:=λq=>by
  rcases g3.2 kh q with u|u
  ·exact h.off u
  ·omega
 refine ao.st r3 (i:=0) (by simp) rfl λH4 r4 m4 z4=>?_;have o4:aF M4 kC H4 s' (L++[x]):=o3.mod m4 λb m q=>R (q▸m);have S:=hx.ext e1;have h4:oW H4 kh s' (L++[x]):=by
  refine⟨r4,o4,λy hy=>?_,λy hy=>?_⟩
  ·rcases QQ.1 hy with q|q
   ·have U:=h1.own y q;have o:=h1.jd U;exact(U.mod m3 λb m=>(o b m).2).mod m4 λb m=>(o b m).1
   ·rw[Q1] at q;subst q;have o:=h1.jd S;exact(S.mod m3 λb m=>(o b m).2).mod m4 λb m=>(o b m).1
  ·rcases QQ.1 hy with q|q
   ·exact h.iY y q
   ·rw[Q1] at q;subst q;exact Q
 have af:Mod (λb=>b=kh\/ai s b) H H4:=((Ext.mod e1).trans' m3 λb _ q=>.inr q).trans' m4 λb _ q=>.inl q;have v:∀b,ai s' b->ai s b\/H.size<=b:=λb m=>(g3.2 b m).imp_right λq=>by omega
 refine ao.ld (c:=aq) (i:=0) (x:=s') r4 rfl ?_;have hn:s'.n=L.length+1:=by rw[aF.n o4 (by decide)];simp
 have e0:QI.wrap ((s'.n:Int) - 1)=(L.length:Int):=by rw[hn,wrap64 (by omega) (by omega)];omega
 rw[e0];have V:∀b,b<H.size->ai s' b->ai s b:=λb m q=>(v b q).resolve_right (by omega);refine⟨Nat,λk i A=>i=(k:Int)/\∃g,k<g.length/\g.length=L.length+1/\oW A kh s' g/\G4 ahead g k/\g.Perm (L++[x])/\Mod (λb=>b=kh\/ai s b) H A,λk=>k,⟨L.length,rfl,L++[x],by simp,by simp,h4,Ka hp x,.refl _,af⟩,?_⟩;rintro k i A ⟨rfl,g,k1,k2,z,hU,hP,mA⟩;refine ah (λJ=>?_) (λJ=>?_)
 ·have k0:0<k:=by
   have:(k:Int)>0:=by simpa using J
   omega
  rw[OV k0 (by omega)];obtain⟨a,M⟩:∃a,g[k]?=some a:=⟨_,QK k1⟩;obtain⟨b,O⟩:∃b,g[(k - 1)/2]?=some b:=⟨_,QK (by omega)⟩;have X:=QL M;have mb:=QL O;obtain⟨ad,f,na,la⟩:=z.get M;obtain⟨a6,F,nb,lb⟩:=z.get O;rw[f] at F;cases F;refine ao.ld (c:=gR) (i:=1) (x:=wF) z.row rfl ?_;refine ao.ld (c:=aq) (i:=0) (x:=s') z.row rfl ?_;refine aZ ad f ⟨⟨by omega,by omega⟩,la (by rw[QP]) ?_⟩;refine ao.ld (c:=aq) (i:=0) (x:=s') z.row rfl ?_;refine aZ ad f ⟨⟨by omega,by omega⟩,lb (by rw[QP]) ?_⟩;refine vK (z.ints X) (z.ints mb) (by have:=z.iY a X;omega) λB eB=>?_;have j:=z.ext eB;have mB:Mod (λb=>b=kh\/ai s b) H B:=mA.trans' eB λ_ _ q=>q.elim;refine ah (λJ=>?_) (λJ=>?_)
  ·have hn:¬ahead a b:=by simpa using J
   exact hK s' g B j (uu hU λa' b' _ Y Z=>by rw[M] at Y;cases Y;rw[O] at Z;cases Z;exact hn) hP mB v
  ·have al:ahead a b:=by simpa using J
   refine ao.ld (c:=aq) (i:=0) (x:=s') j.row rfl ?_;refine ao.ld (c:=aq) (i:=0) (x:=s') j.row rfl ?_;refine ao.ld (c:=aq) (i:=0) (x:=s') j.row rfl ?_;obtain⟨a7,G,a8,an⟩:=j.get M;obtain⟨bb,I,bd,a1⟩:=j.get O;rw[f] at G;cases G;rw[f] at I;cases I;refine aZ ad f ⟨⟨by omega,by omega⟩,a1 (by rw[QP]) ?_⟩;refine ao.ld (c:=aq) (i:=0) (x:=s') j.row rfl ?_;refine aZ ad f ⟨⟨by omega,by omega⟩,an (by rw[QP]) ?_⟩;refine aZ ad f ⟨⟨by omega,by omega⟩,?_⟩;refine j.put (y:=b) k1 (j.own b mb) (j.iY b mb) f (by rw[QP]) λC hC mC=>?_;refine aZ ad f ⟨⟨by omega,by omega⟩,?_⟩;refine hC.put (y:=a) (i:=(k - 1)/2) (by simp;omega) ((j.own a X).mod mC λq hq=>(j.jd (j.own a X) q hq).2) (j.iY a X) f (by rw[QP]) λD hD mD=>?_;refine⟨(k - 1)/2,⟨rfl,_,by simp;omega,by simp;omega,hD,Bz fO hU k0 M O al,(swap_perm M O).trans hP,?_⟩,by show (k - 1)/2<k;omega⟩;have own2:∀q,q<H.size->ai s' q->q=kh\/ai s q:=λq hq u=>.inr (V q hq u);exact(mB.trans' mC own2).trans' mD own2
 ·have k0:k=0:=by
   have:¬(k:Int)>0:=by simpa using J
   omega
  subst k0;exact hK s' g A z (uu hU λ_ _ q=>absurd q (Yv _)) hP mA v
theorem CY {k c:Nat}(hk:k<1099511627776)(a:c<3):QI.wrap (QI.wrap (2*(k:Int))+(c:Int))=((2*k+c:Nat):Int):=by
 rw[wrap64 (x:=2*(k:Int)) (by omega) (by omega),wrap64 (by omega) (by omega)];omega
set_option maxRecDepth 100000 in
theorem BD (a b:Int)(j:Nat)(e:j<2){K:Int->Prop}(c:K (if j=0 then a else b)):tF (ab .i64) QH (Instr.index Pm (.agg #[.int .i64 a,.int .i64 b]) (.int .i64 (j:Int))) K:=by
 refine⟨_,λw=>?_,c⟩;rcases (show j=0\/j=1 by omega) with rfl|rfl<;>rfl
structure iK (L:List Hx)(n k j c:Nat):Prop where
 lt:c=k\/c<n
 at_:c=k\/((c - 1)/2=k/\0<c/\∀a x,L[k]?=some a->L[c]?=some x->ahead x a)
 least:∀d y x,(d=k\/(2*k<d/\d<=2*k+j))->L[d]?=some y->L[c]?=some x->¬ahead y x
theorem Pc (x:Hx):¬ahead x x:=λq=>fO.asym _ _ q q
theorem iK.first {n k:Nat}:iK L n k 0 k:=
 ⟨.inl rfl,.inl rfl,λd y x hd b a=>by
  have:d=k:=by omega
  subst this;rw[b] at a;cases a;exact Pc _⟩
theorem iK.skip {n k j c:Nat}(h:iK L n k j c)(hs:∀y x,L[2*k+(j+1)]?=some y->L[c]?=some x->¬ahead y x):iK L n k (j+1) c:=
 ⟨h.lt,h.at_,λd y x hd a b=>by
  by_cases e:d=2*k+(j+1)
  ·subst e;exact hs y x a b
  ·exact h.least d y x (by omega) a b⟩
theorem iK.take {n k j c:Nat}{z x0 a:Hx}(h:iK L n k j c)(C:j<2)(B:2*k+(j+1)<n)(m:L[2*k+(j+1)]?=some z)(b:L[c]?=some x0)(o:L[k]?=some a)(hl:ahead z x0):iK L n k (j+1) (2*k+(j+1)):=by
 refine⟨.inr B,.inr ⟨by omega,by omega,λD x' f g=>?_⟩,λd y x hd v A=>?_⟩
 ·rw[o] at f;cases f;rw[m] at g;cases g;rcases h.at_ with q|⟨_,_,q⟩
  ·subst q;rw[o] at b;cases b;exact hl
  ·refine Classical.byContradiction λu=>?_;exact fO.trans _ _ _ u (fO.asym _ _ (q _ _ o b)) hl
 ·rw[m] at A;cases A;by_cases e:d=2*k+(j+1)
  ·subst e;rw[m] at v;cases v;exact Pc _
  ·exact fO.trans _ _ _ (h.least d y x0 (by omega) v b) (fO.asym _ _ hl)
theorem CK (a:Option hY)(c k:Nat):cM a c 0 k=a:=by
 unfold cM;split
 ·rfl
 ·cases a<;>simp[add_zero']
theorem aF.cut {α:Type}{E:eZ α}{e:ic}{s:Sl}{l:List α}(h:aF E e H s l)(hs:0<E.size){n:Nat}(c:n<=l.length):aF E e H ⟨s.a,n,s.c⟩ (l.take n):=by
 have b:=aF.n h hs;refine⟨by rw[E.cj,Ro];show min n l.length*E.size=n*E.size;rw[TL c],?_⟩;rcases h.2 with ⟨a,f⟩|⟨g,cap,cur,a,j,m,x,o,u,v⟩
 ·refine .inl ⟨?_,?_⟩
  ·cases s;simp only[Sl.v,Q2] at a ⊢;simp only at f b;exact⟨a.1,by omega,a.2.2⟩
  ·show n=0;omega
 ·refine .inr ⟨g,cap,cur,?_,j,m,?_,o,u,?_⟩
  ·cases s;simp only[Sl.v,Q2] at a ⊢;exact⟨a.1,trivial,a.2.2⟩
  ·show n<=cap;omega
  ·show cur.toList.take (n*E.size)=_;rw[<-E.ux,<-v,T0];congr 1;have:n*E.size<=s.n*E.size:=Rq _ (by omega);rw[TL this]
set_option maxRecDepth 100000 in
set_option maxHeartbeats 1000000 in
theorem J4 {top:Hx}{K:(Int×Sl×Option hY)->aa->Prop}(h:oW H kh s L)(hp:Hp ahead L)(ht:L[0]?=some top)(hl:L.length<=1000000)
  (hK:∀s' o H',oW H' kh s' o->Hp ahead o->L.Perm (top::o)->Mod (λb=>b=kh\/ai s b) H H'->(∀b,ai s' b->ai s b)->K ((top.no:Int),top.sl,top.ptr) H'):KO.sp (aK kh) H K:=by
 refine KO.of ?_;unfold KO.vc;unfold aK;simp only[aw];have h0:=(QJ.1 ht).1;obtain⟨n,hn⟩:∃n,L.length=n+1:=⟨L.length - 1,by omega⟩;have bl:s.n=n+1:=by rw[aF.n h.els (by decide)];exact hn
 have ew:QI.wrap ((s.n:Int) - 1)=(n:Int):=by rw[bl,wrap64 (by omega) (by omega)];omega
 have an:=aI h.row;refine au λH1 z1 r1 e1=>?_;have h1:=h.ext e1;refine⟨λA=>oW A kh s L,h1,?_⟩;refine ao.dE (c:=aq) (i:=0) (x:=s) (cs:=λ_=>_) (λ_ q=>q.row) (λ_ _=>rfl) ?_;obtain⟨ad,G,_,_⟩:=h.get ht;refine aZ ad G ⟨⟨by omega,by omega⟩,((top.no:Int),top.sl,top.ptr),λA hA=>?_,?_⟩
 ·have:=hA.els.rd.row G ht;exact this
 refine ao.dE (c:=aq) (i:=0) (x:=s) (cs:=λ_=>_) (λ_ q=>q.row) (λ_ _=>rfl) ?_;refine au λH2 z2 r2 e2=>?_;refine⟨h1.ext e2,?_⟩;refine ao.iE (cs:=(Fu top).toArray) r2 nS xV (λv hv=>M4.one top v (show v∈Fu top by simpa using hv)) λH3 r3 m3 z3=>?_;have e3:Ext H H3:=⟨by have:=m3.size;omega,λb g _=>(m3.same b (by omega) (by intro q;have:b=H1.size:=q;omega)).trans ((e2.same b (by omega) id).trans (e1.same b g id))⟩;have X:=h.ext e3;have p3:ao H3 H.size kC (zc QH kC):=(r1.ext e2).mod m3 (by intro q;have:H.size=H1.size:=q;omega);refine⟨X,?_⟩;refine ao.ld (c:=aq) (i:=0) (x:=s) X.row rfl ?_;refine ao.ld (c:=aq) (i:=0) (x:=s) X.row rfl ?_;simp only[ew,QP,Wb,CK];obtain⟨z,hz⟩:∃z,L[n]?=some z:=⟨_,QK (by omega)⟩;have mz:=QL hz;obtain⟨b0,S,_,lz⟩:=X.get hz;rw[G] at S;cases S;refine aZ ad G ⟨⟨by omega,by omega⟩,lz rfl ?_⟩;refine aZ ad G ⟨⟨by omega,by omega⟩,?_⟩;refine X.put (y:=z) (i:=0) h0 (X.own z mz) (X.iY z mz) G (by simp) λH4 U m4=>?_;refine ao.ld (c:=aq) (i:=0) (x:=s) U.row rfl ?_;refine⟨⟨by omega,by have:=aO.cap U.els;omega⟩,?_⟩;refine ao.st U.row (i:=0) (by simp) rfl λH5 r5 m5 z5=>?_;have bn:(.slice s.a n s.c:gp)=(Sl.mk s.a n s.c).v:=rfl;rw[bn] at r5;obtain⟨s2,M⟩:∃s2,s2=Sl.mk s.a n s.c:=⟨_,rfl⟩;rw[<-M] at r5;have own2:∀b,ai s2 b->ai s b:=λb g=>by rw[M] at g;exact g
 have a1:aF M4 kC H4 s2 ((L.set 0 z).take n):=by
  rw[M];exact aF.cut U.els (by decide) (by simp;omega)
 have a6:=U.off;have h5:oW H5 kh s2 ((L.set 0 z).take n):=by
  refine⟨r5,a1.mod m5 λb g q=>a6 (q▸own2 b g),λx hx=>?_,λx hx=>U.iY x (RU hx)⟩;have a7:=U.own x (RU hx);exact a7.mod m5 λb g=>(U.jd a7 b g).1
 obtain⟨dn,pm⟩:=Ny hp hn ht hz;have bs:Mod (λb=>b=kh\/ai s b) H H5:=((Ext.mod e3).trans' m4 λb _ q=>.inr q).trans' m5 λb _ q=>.inl q;have Y:∀b,b=H.size\/b=H1.size->¬(b=kh\/ai s b):=λb g q=>by
  rcases q with q|q
  ·omega
  ·have:=h.els.lt b q;omega
 have a8:ao H3 H1.size kC (Fu top).toArray:=r3;have I:∀{b:Nat} {cs:Array gp},(b=H.size\/b=H1.size)->ao H3 b kC cs->ao H5 b kC cs:=λg r=>
  (r.mod m4 λq=>Y _ g (.inr q)).mod m5 λq=>Y _ g (.inl q)
 have p5:=I (.inl rfl) p3;have t5:=I (.inr rfl) a8;have Z:((L.set 0 z).take n).length=n:=by simp;omega
 refine⟨Nat,λk i A=>i=(k:Int)/\(k=0\/k<n)/\∃o,o.length=n/\oW A kh s2 o/\HH ahead o k/\o.Perm ((L.set 0 z).take n)/\Mod (λb=>b=kh\/ai s b) H A/\ao A H.size kC (zc QH kC)/\ao A H1.size kC (Fu top).toArray,λk=>n+1 - k,
  ⟨0,rfl,.inl rfl,_,Z,h5,dn,.refl _,bs,p5,t5⟩,?_⟩
 rintro k i A ⟨rfl,hk,o,bx,hA,hD,hP,mA,pA,tA⟩;have bO:s2.n=n:=by rw[M]
 refine⟨Nat,λj w B=>w.2=(j:Int)/\j<=2/\∃c:Nat,w.1=(c:Int)/\iK o n k j c/\Ext A B,λj=>2 - j,⟨0,rfl,by omega,k,rfl,.first,.refl _ _⟩,?_⟩;rintro j ⟨c0,j0⟩ B ⟨hj,j2,c,m,V,O⟩;simp only at hj m;subst hj;subst m;have f:=hA.ext O;simp only;refine ah (λm=>?_) (λm=>?_)
 ·have Q:j<2:=by
   have:(j:Int)<2:=by simpa using m
   omega
  refine BD _ _ j Q ?_;have ey:(if j=0 then QI.wrap (QI.wrap (2*(k:Int))+1) else QI.wrap (QI.wrap (2*(k:Int))+2))=((2*k+(j+1):Nat):Int):=by
   have h1:=CY (k:=k) (c:=1) (by omega) (by decide);have h2:=CY (k:=k) (c:=2) (by omega) (by decide);rcases (show j=0\/j=1 by omega) with rfl|rfl
   ·rw[if_pos rfl];exact h1
   ·rw[if_neg (by decide)];exact h2
  rw[ey];have ej:QI.wrap ((j:Int)+1)=((j+1:Nat):Int):=aD j (by omega);rw[ej];refine ah (λm=>?_) (λm=>?_)
  ·have hy:2*k+(j+1)<n:=by
    have:((2*k+(j+1):Nat):Int)<(n:Int):=by simpa using m
    omega
   have bb:c<n:=by rcases V.lt with q|q<;>omega
   obtain⟨y,gy⟩:∃y,o[2*k+(j+1)]?=some y:=⟨_,QK (by omega)⟩;obtain⟨x0,J⟩:∃x0,o[c]?=some x0:=⟨_,QK (by omega)⟩;obtain⟨a0,ga⟩:∃a0,o[k]?=some a0:=⟨_,QK (by omega)⟩;have my:=QL gy;have mx:=QL J;obtain⟨E,e,_,ly⟩:=f.get gy;obtain⟨bA,u,_,lx⟩:=f.get J;rw[e] at u;cases u;refine ao.ld (c:=gR) (i:=1) (x:=wF) f.row rfl ?_;refine ao.ld (c:=aq) (i:=0) (x:=s2) f.row rfl ?_;refine aZ E e ⟨⟨by omega,by omega⟩,ly (by rw[QP]) ?_⟩;refine ao.ld (c:=aq) (i:=0) (x:=s2) f.row rfl ?_;refine aZ E e ⟨⟨by omega,by omega⟩,lx (by rw[QP]) ?_⟩;refine vK (f.ints my) (f.ints mx) (by have:=f.iY y my;omega) λC eC=>?_;have bd:=O.trans eC;refine ah (λm=>?_) (λm=>?_)
   ·have an:ahead y x0:=by simpa using m
    exact⟨j+1,⟨rfl,by omega,_,rfl,V.take Q hy gy J ga an,bd⟩,by omega⟩
   ·have bB:¬ahead y x0:=by simpa using m
    exact⟨j+1,⟨rfl,by omega,c,rfl,V.skip λy' x' R af=>by rw[gy] at R;cases R;rw[J] at af;cases af;exact bB,bd⟩,by omega⟩
  ·have hy:¬2*k+(j+1)<n:=by
    have:¬((2*k+(j+1):Nat):Int)<(n:Int):=by simpa using m
    omega
   exact⟨j+1,⟨rfl,by omega,c,rfl,V.skip λy' x' R af=>absurd (QJ.1 R).1 (by omega),O⟩,by omega⟩
 ·have Q:j=2:=by
   have:¬(j:Int)<2:=by simpa using m
   omega
  subst Q;have mB:Mod (λb=>b=kh\/ai s b) H B:=mA.trans' O λ_ _ q=>q.elim;refine ah (λm=>?_) (λm=>?_)
  ·have ec:c=k:=by
    have:(c:Int)=(k:Int):=by simpa using m
    omega
   subst ec;refine ao.cN (x:=((top.no:Int),top.sl,top.ptr)) (tA.ext O) rfl rfl ?_;refine ao.iE (cs:=(Fu top).toArray) (pA.ext O) nS xV (λv hv=>M4.one top v (show v∈Fu top by simpa using hv)) λC rC mC zC=>?_;refine ao.cN (x:=((top.no:Int),top.sl,top.ptr)) rC rfl rfl ?_;have al:Hp ahead o:=Ch hD λi a b i0 hi ha g=>V.least i a b (by omega) ha g;have zH:H.size<=H.size:=QN _;refine hK s2 o C (f.mod mC (by omega) (λb g q=>by have:=h.els.lt b (own2 b g);have:b=H.size:=q;omega) λx hx b g q=>?_) al (pm.trans (hP.symm.cons _)) ?_ own2
   ·have:b=H.size:=q;subst this;obtain⟨cur,bh⟩:=(f.own x hx).obj _ g;exact absurd (aM bh (pA.ext O)) (by decide)
   ·exact mB.trans' mC λb g q=>by have:b=H.size:=q;omega
  ·have ec:c≠k:=λq=>by subst q;simp at m
   have bb:c<n:=V.lt.resolve_left ec;obtain⟨bC,bD,bM⟩:=V.at_.resolve_left ec;obtain⟨x0,J⟩:∃x0,o[c]?=some x0:=⟨_,QK (by omega)⟩;obtain⟨a0,ga⟩:∃a0,o[k]?=some a0:=⟨_,QK (by omega)⟩;have mx:=QL J;have ma:=QL ga;obtain⟨E,e,_,la⟩:=f.get ga;obtain⟨bA,u,_,lx⟩:=f.get J;rw[e] at u;cases u;refine ao.ld (c:=aq) (i:=0) (x:=s2) f.row rfl ?_;refine ao.ld (c:=aq) (i:=0) (x:=s2) f.row rfl ?_;refine ao.ld (c:=aq) (i:=0) (x:=s2) f.row rfl ?_;refine aZ E e ⟨⟨by omega,by omega⟩,lx (by rw[QP]) ?_⟩;refine ao.ld (c:=aq) (i:=0) (x:=s2) f.row rfl ?_;refine aZ E e ⟨⟨by omega,by omega⟩,la (by rw[QP]) ?_⟩;refine aZ E e ⟨⟨by omega,by omega⟩,?_⟩;refine f.put (y:=x0) (i:=k) (by omega) (f.own x0 mx) (f.iY x0 mx) e (by rw[QP]) λC hC mC=>?_;refine aZ E e ⟨⟨by omega,by omega⟩,?_⟩;refine hC.put (y:=a0) (i:=c) (by simp;omega) ((f.own a0 ma).mod mC λq hq=>(f.jd (f.own a0 ma) q hq).2) (f.iY a0 ma) e (by rw[QP]) λD bN mD=>?_;have F:∀b,b=H.size\/b=H1.size->¬ai s2 b:=λb g q=>Y b g (.inr (own2 b q));refine⟨c,⟨rfl,.inr bb,_,by simp;exact bx,bN,BM fO hD bC bD ga J (bM a0 x0 ga J) λd y d0 hd gy=>V.least d y x0 (by omega) gy J,(swap_perm ga J).trans hP,?_,?_,?_⟩,by omega⟩
   ·exact(mB.trans' mC λb _ q=>.inr (own2 b q)).trans' mD λb _ q=>.inr (own2 b q)
   ·exact((pA.ext O).mod mC (F _ (.inl rfl))).mod mD (F _ (.inl rfl))
   ·exact((tA.ext O).mod mC (F _ (.inr rfl))).mod mD (F _ (.inr rfl))
end
end
def FH {α:Type}(key:α->List Int)(a:α):List α->List α
 |[]=>[]
 |b::l=>if key b=key a then FH key b l else b::FH key b l
def dd (a:List Int):List (List Int)->List (List Int)
 |[]=>[]
 |b::l=>if b=a then dd b l else b::dd b l
def cG:List (List Int)->List (List Int)
 |[]=>[]
 |a::l=>a::dd a l
theorem xJ {α:Type}(key:α->List Int):∀(l:List α) (a:α),(FH key a l).map key=dd (key a) (l.map key)
 |[],a=>rfl
 |b::l,a=>by
   simp only[FH,dd,Q7];split
   ·exact xJ key l b
   ·rw[Q7,xJ key l b]
theorem xP {α:Type}(key:α->List Int):∀(l:List α) (a x:α),x∈FH key a l->x∈l
 |[],a,x,h=>h
 |b::l,a,x,h=>by
   simp only[FH] at h;split at h
   ·exact Q8 _ (xP key l b x h)
   ·rcases QX.1 h with e|e
    ·rw[e];exact Q9
    ·exact Q8 _ (xP key l b x e)
theorem GX {y:List Int}:∀{l:List (List Int)} {a:List Int},y∈a::dd a l↔y∈a::l
 |[],a=>V4
 |b::l,a=>by
   simp only[dd];have c:=@GX y l b;split
   ·rename_i e;subst e;rw[c];simp
   ·rw[QX,c];simp
theorem DW {y:List Int}{l:List (List Int)}:y∈cG l↔y∈l:=by
 cases l with
 |nil=>exact V4
 |cons a l=>exact GX
theorem LQ:∀{l:List (List Int)} {a:List Int},(a::l).Pairwise (λx y=>aX x y<=0)->(a::dd a l).Pairwise (λx y=>aX x y<0)
 |[],a,_=>by simp[dd]
 |b::l,a,h=>by
   have j:(b::l).Pairwise (λx y=>aX x y<=0):=(R0.1 h).2;have m:=(R0.1 h).1 b Q9;have f:=LQ j;simp only[dd];split
   ·rename_i e;rw[<-e];exact f
   ·rename_i g;have c:aX a b<0:=by
     have:aX a b≠0:=λq=>g (cr.1 q).symm;omega
    refine R0.2 ⟨λy o=>?_,f⟩;rcases QX.1 o with e|e
    ·rw[e];exact c
    ·exact fF c ((R0.1 f).1 y e)
theorem AF {l:List (List Int)}(h:l.Pairwise (λx y=>aX x y<=0)):(cG l).Pairwise (λx y=>aX x y<0):=by
 cases l with
 |nil=>exact UY
 |cons a l=>exact LQ h
theorem AR {l r:List (List Int)}(h:l.Perm r)(hl:l.Pairwise (λx y=>aX x y<=0))(c:r.Pairwise (λx y=>aX x y<=0)):l=r:=
 TE (le:=λx y=>aX x y<=0) (λa b _ _ h1 e=>cr.1 (by have:=bZ a b;omega)) hl c h
section
open Go.MapKept
def NG:ByteArray:=Q4 #[48,49,50,51,52,53,54,55,56,57,97,98,99,100,101,102,103,104,105,106,107,108,109,110,111,112,113,114,115,116,117,118,119,120,121,122]
def OG:ByteArray:=Q4 #[48,48,48,49,48,50,48,51,48,52,48,53,48,54,48,55,48,56,48,57,49,48,49,49,49,50,49,51,49,52,49,53,49,54,49,55,49,56,49,57,50,48,50,49,50,50,50,51,50,52,50,53,50,54,50,55,50,56,50,57,51,48,51,49,51,50,51,51,51,52,51,53,51,54,51,55,51,56,51,57,52,48,52,49,52,50,52,51,52,52,52,53,52,54,52,55,52,56,52,57,53,48,53,49,53,50,53,51,53,52,53,53,53,54,53,55,53,56,53,57,54,48,54,49,54,50,54,51,54,52,54,53,54,54,54,55,54,56,54,57,55,48,55,49,55,50,55,51,55,52,55,53,55,54,55,55,55,56,55,57,56,48,56,49,56,50,56,51,56,52,56,53,56,54,56,55,56,56,56,57,57,48,57,49,57,50,57,51,57,52,57,53,57,54,57,55,57,56,57,57]
def lR (n:Nat):ByteArray:=if n<10 then NG.extract n (n+1) else if n<100 then OG.extract (2*n) (2*n+2) else if n<1000 then Q4 #[Rv (48+n/100)]++OG.extract (2*(n%100)) (2*(n%100)+2) else Tn
theorem Kl {n:Nat}{H:aa}{K:ByteArray->aa->Prop}(c:n<100)(a:K (lR n) H):K4.sp (n:Int) H K:=by
 refine K4.of ?_;unfold K4.vc;refine MA.of ?_;unfold MA.vc;refine Nf.of ?_;unfold Nf.vc;refine aR rfl ?_;refine aR (by simp;omega) ?_;refine M1.of ?_;unfold M1.vc;rw[aD n (by omega)];have e:QI.wrap ((n:Int)*2)=((2*n:Nat):Int):=by rw[wrap64 (by omega) (by omega)];omega
 rw[e];have f:QI.wrap (((2*n:Nat):Int)+2)=((2*n+2:Nat):Int):=by rw[wrap64 (by omega) (by omega)];omega
 rw[f];simp only[QP];unfold lR at a;refine ah (λb=>?_) (λb=>?_)
 ·have h1:n<10:=by
   have:(n:Int)<10:=of_decide_eq_true b;omega
  rw[if_pos h1] at a;have hs:NG.size=36:=by decide
  refine⟨⟨by omega,?_⟩,⟨by omega,by omega⟩,a⟩;show ((n+1:Nat):Int)<=((NG.size:Nat):Int);omega
 ·have h1:¬n<10:=by
   have:¬(n:Int)<10:=of_decide_eq_false b;omega
  rw[if_neg h1,if_pos c] at a;have hs:OG.size=200:=by decide+kernel
  refine⟨⟨by omega,?_⟩,⟨by omega,by omega⟩,a⟩;show ((2*n+2:Nat):Int)<=((OG.size:Nat):Int);omega
def OW (l:List UInt8):Nat:=l.foldl (λa c=>10*a+(c.toNat - 48)) 0
theorem FM:∀n,n<100->OW (lR n).toList=n/\(lR n).size<=2:=by decide+kernel
end
instance:Inhabited RR:=⟨⟨⟨Tn,0,0,false⟩,0,0,none,[]⟩⟩
def Ea (x:List Int):List (List Int)->List (List Int)
 |[]=>[x]
 |y::l=>if aX x y<=0 then x::y::l else y::Ea x l
def eN:List (List Int)->List (List Int)
 |[]=>[]
 |x::l=>Ea x (eN l)
theorem qG (x:List Int):∀l,(Ea x l).Perm (x::l)
 |[]=>.refl _
 |y::l=>by
   unfold Ea;split
   ·exact .refl _
   ·exact((qG x l).cons y).trans (.swap x y l)
theorem nD:∀l:List (List Int),(eN l).Perm l
 |[]=>.refl _
 |x::l=>(qG x (eN l)).trans ((nD l).cons x)
theorem jO {a b c:List Int}(h1:aX a b<=0)(e:aX b c<=0):aX a c<=0:=by
 rcases Wy h1 with u|u
 ·rcases Wy e with v|v
  ·exact YO (fF u v)
  ·rw[cr.1 v] at u;exact YO u
 ·rw[cr.1 u];exact e
theorem C9 (x:List Int):∀{l:List (List Int)},l.Pairwise (λx y=>aX x y<=0)->(Ea x l).Pairwise (λx y=>aX x y<=0)
 |[],_=>List.pairwise_singleton _ _
 |y::l,h=>by
   have h1:=R0.1 h;unfold Ea;split
   ·rename_i e;exact R0.2 ⟨λz a=>(QX.1 a).elim (λu=>u▸e) λu=>jO e (h1.1 z u),h⟩
   ·rename_i e;refine R0.2 ⟨λz a=>?_,C9 x h1.2⟩;rcases QX.1 ((qG x l).mem_iff.1 a) with u|u
    ·have:=bZ x y;rw[u];omega
    ·exact h1.1 z u
theorem th:∀l:List (List Int),(eN l).Pairwise (λx y=>aX x y<=0)
 |[]=>.nil
 |x::l=>C9 x (th l)
def bc (W:Int):List ByteArray->Pl->Pl×List RR×Int
 |[],p=>(p,[],0)
 |n::ns,p=>
   match (rnOpen p n W).2.1 with
   |none=>((rnOpen p n W).1,[],(rnOpen p n W).2.2)
   |some r=>((bc W ns (rnOpen p n W).1).1,r::(bc W ns (rnOpen p n W).1).2.1,(bc W ns (rnOpen p n W).1).2.2)
def ez (l:List Int)(b:Bool):Option (List Int):=if b then some l else none
def bp:List RR->Pl->Pl×List RR×List (Option (List Int))×Int
 |[],p=>(p,[],[],0)
 |r::rs,p=>
   if (r.next p).2.2.2.2≠0 then ((r.next p).1,[],[],(r.next p).2.2.2.2)
   else ((bp rs (r.next p).1).1,(r.next p).2.1::(bp rs (r.next p).1).2.1,ez (r.next p).2.2.1 (r.next p).2.2.2.1::(bp rs (r.next p).1).2.2.1,(bp rs (r.next p).1).2.2.2)
def dU:List (Option (List Int))->Option (Nat×List Int)
 |[]=>none
 |none::t=>(dU t).map λq=>(q.1+1,q.2)
 |some a::t=>
   match dU t with
   |none=>some (0,a)
   |some (i,x)=>if aX x a<0 then some (i+1,x) else some (0,a)
def aV (p:Pl)(w:RW)(x:List Int):Pl×RW×Int:=if w.rows=0\/aX x w.last≠0 then w.add p x else (p,w,0)
def gO:Nat->Pl->List RR->List (Option (List Int))->RW->Pl×Nat×Int
 |0,p,_,_,_=>(p,0,0)
 |f+1,p,rs,hs,w=>
   match dU hs with
   |none=>((w.close p).1,(w.close p).2.2.1,(w.close p).2.2.2)
   |some (i,x)=>
     if (aV p w x).2.2≠0 then ((aV p w x).1,0,(aV p w x).2.2)
     else if ((rs.getD i default).next (aV p w x).1).2.2.2.2≠0 then (((rs.getD i default).next (aV p w x).1).1,0,((rs.getD i default).next (aV p w x).1).2.2.2.2)
     else gO f ((rs.getD i default).next (aV p w x).1).1 (rs.set i ((rs.getD i default).next (aV p w x).1).2.1)
      (hs.set i (ez ((rs.getD i default).next (aV p w x).1).2.2.1 ((rs.getD i default).next (aV p w x).1).2.2.2.1)) (aV p w x).2.1
def bT (rs:List RR):Nat:=(rs.map λr=>r.rows - r.at_).sum
def gH (hs:List (Option (List Int))):Nat:=(hs.map λh=>if h.isSome then 1 else 0).sum
def Bj (r:Pl×List RR×List (Option (List Int))×Int)(w:RW):Pl×Nat×Int:=
 if r.2.2.2≠0 then (r.1,0,r.2.2.2) else gO (bT r.2.1+gH r.2.2.1+1) r.1 r.2.1 r.2.2.1 w
def mU (rs:List RR)(m:Pl×Option RW×Int):Pl×Nat×Int:=
 match m.2.1 with
 |none=>(m.1,0,m.2.2)
 |some w=>Bj (bp rs m.1) w
def cV (p:Pl)(names:List ByteArray)(to:ByteArray)(W:Int):Pl×Nat×Int:=
 if names=[] then (p,0,2)
 else if (bc W names p).2.2≠0 then ((bc W names p).1,0,(bc W names p).2.2)
 else mU (bc W names p).2.1 (bo (bc W names p).1 to W)
def lM:List (List Int)->Pl->RW->Pl×RW×Int
 |[],p,w=>(p,w,0)
 |x::l,p,w=>if (w.add p x).2.2≠0 then w.add p x else lM l (w.add p x).1 (w.add p x).2.1
def wq (a:Pl×RW×Int):Pl×Int:=if a.2.2≠0 then (a.1,a.2.2) else ((a.2.1.close a.1).1,(a.2.1.close a.1).2.2.2)
def fu (p:Pl)(n:ByteArray)(W:Int)(L:List (List Int)):Pl×Int:=
 match (bo p n W).2.1 with
 |none=>((bo p n W).1,(bo p n W).2.2)
 |some w=>wq (lM L (bo p n W).1 w)
def jF:List ByteArray->Pl->Pl×Int
 |[],p=>(p,0)
 |n::l,p=>if (p.c9 n).2≠0 then p.c9 n else jF l (p.c9 n).1
structure So where
 name:ByteArray
 width:Int
 ag:Int
 wait:List (List Int)
 side:List ByteArray
 next:Nat
 wrong:Int
 closed:Bool
def So.ready (s:So):Int:=if s.wrong≠0 then s.wrong else if s.closed then 2 else 0
def JZ:ByteArray:=Q4 #[126]
def bL (n:ByteArray)(k:Nat):ByteArray:=n++JZ++lR k
def So.gV (s:So):So:={s with wait:=[],side:=s.side++[bL s.name s.next],next:=s.next+1}
def So.aside (s:So)(p:Pl):Pl×So×Int:=
 ((fu p (bL s.name s.next) s.width (cG (eN s.wait))).1,s.gV,(fu p (bL s.name s.next) s.width (cG (eN s.wait))).2)
def So.add (s:So)(p:Pl)(l:List Int):Pl×So×Int:=
 if s.ready≠0 then (p,s,s.ready)
 else if (l.length:Int)≠s.width then (p,s,60)
 else if ((s.wait.length+1:Nat):Int)<s.ag*aL s.width then (p,{s with wait:=s.wait++[l]},0)
 else (({s with wait:=s.wait++[l]}.aside p).1,{{s with wait:=s.wait++[l]}.gV with wrong:=({s with wait:=s.wait++[l]}.aside p).2.2},({s with wait:=s.wait++[l]}.aside p).2.2)
def gJ (l:List ByteArray)(m:Pl×Nat×Int):Pl×Int:=if m.2.2≠0 then (m.1,m.2.2) else jF l m.1
def So.merge (s:So)(p:Pl)(k:Nat)(to:ByteArray):Pl×So×Nat×Int:=
 ((gJ (s.side.take k) (cV p (s.side.take k) to s.width)).1,{s with side:=s.side.drop k},(cV p (s.side.take k) to s.width).2.1,(gJ (s.side.take k) (cV p (s.side.take k) to s.width)).2)
def So.to (s:So)(k:Nat):So:={s with next:=k}
def So.round (s:So)(p:Pl):Pl×So×Nat×Int:=(s.to (s.next+1)).merge p (s.ag - 1).toNat (bL s.name s.next)
def So.rounds:Nat->So->Pl->Pl×So×Int
 |0,s,p=>(p,s,0)
 |f+1,s,p=>
   if s.ag<=(s.side.length:Int) then
    if (s.round p).2.2.2≠0 then ((s.round p).1,(s.round p).2.1,(s.round p).2.2.2)
    else So.rounds f {(s.round p).2.1 with side:=s.side.drop (s.ag - 1).toNat++[bL s.name s.next]} (s.round p).1
   else (p,s,0)
def So.last (r:Pl×So×Int):Pl×So×Nat×Int:=
 if r.2.2≠0 then (r.1,r.2.1,0,r.2.2) else r.2.1.merge r.1 r.2.1.side.length r.2.1.name
def So.first (s:So)(p:Pl):Pl×So×Int:=if s.wait≠[]\/s.side=[] then s.aside p else (p,s,0)
def So.goes (r:Pl×So×Int):Pl×So×Nat×Int:=
 if r.2.2≠0 then (r.1,r.2.1,0,r.2.2) else So.last (r.2.1.rounds r.2.1.side.length r.1)
def So.ends (r:Pl×So×Nat×Int):Pl×So×Nat×Int:=
 if r.2.2.2≠0 then (r.1,{r.2.1 with wrong:=r.2.2.2},0,r.2.2.2) else (r.1,{r.2.1 with closed:=true},r.2.2.1,0)
def So.done (s:So)(p:Pl):Pl×So×Nat×Int:=
 if s.ready≠0 then (p,s,0,s.ready) else So.ends (So.goes (s.first p))
def qJ (n:ByteArray)(W fr:Int):So:=⟨n,W,fr,[],[],0,0,false⟩
def eY (p:Pl)(n:ByteArray)(W fr:Int):Option So×Int:=
 if aL W=0 then (none,60) else if fr<3\/fr>p.most then (none,30) else (some (qJ n W fr),0)
section
variable {p:Pl}{w:RW}{n:ByteArray}{W:Nat}{rs:List (List Int)}{q:Nat}
end
section
open Go.MapKept
theorem Pl.CX {s:Pl}(h:s.WF)(x:Int):(s.get x).2.1.length<=504:=by
 unfold Pl.get;split
 ·simp
 ·cases e:s.held x with
  |none=>simp
  |some i=>
    obtain⟨f,a,_⟩:=Pl.iQ e;simp only[Pl.fZ a];exact h.room f (QL a)
def b8 (p:Nat)(b:Rb):List gp:=[.pointer (aK p),.string b.name,.int .i64 b.width,.int .i64 (aL b.width),.int .i64 b.wrong,.bool b.closed]
abbrev bK (H:aa)(k:Nat)(t:ic)(p:Nat)(b:Rb)(rest:List gp):Prop:=ao H k t (b8 p b++rest).toArray
section
variable {H:aa}{k p dp:Nat}{t:ic}{b:Rb}{rest:List gp}{F:Nat->Prop}{s:Pl}
theorem bK.get (i:Nat)(v:gp)(h:(b8 p b)[i]?=some v):(b8 p b++rest).toArray[i]?=some v:=by
 rw[TB,Rf (QJ.1 h).1];exact h
theorem bK.tail {j:Nat}{v:gp}(h:rest[j]?=some v):(b8 p b++rest).toArray[6+j]?=some v:=by
 rw[TB,List.getElem?_append_right (by simp[b8])];simpa[b8] using h
theorem qM {K:Int->aa->Prop}(h:bK H k t p b rest)(a:K b.ready H):IP.sp (aK k) H K:=by
 refine IP.of ?_;unfold IP.vc;unfold Rb.ready at a;simp only[aw,aK];refine ao.ld (c:=ab .i64) (i:=4) (x:=b.wrong) h (bK.get 4 _ rfl) ?_;refine ah (λf=>?_) (λf=>?_)
 ·refine ao.ld (c:=ab .i64) (i:=4) (x:=b.wrong) h (bK.get 4 _ rfl) ?_;rw[if_pos (by simpa using f)] at a;exact a
 ·rw[if_neg (by simpa using f)] at a;refine ao.ld (c:=aC) (i:=5) (x:=b.closed) h (bK.get 5 _ rfl) ?_;cases e:b.closed with
  |true=>rw[e,if_pos rfl] at a;exact a
  |false=>rw[e,if_neg (by simp)] at a;exact a
theorem yN (e:Int):(b8 p b++rest).toArray.setIfInBounds 4 (.int .i64 e)=(b8 p {b with wrong:=e}++rest).toArray:=by
 simp[b8]
theorem qm:(b8 p b++rest).toArray.setIfInBounds 5 (.bool true)=(b8 p {b with closed:=true}++rest).toArray:=by
 simp[b8]
theorem qY {e:Int}{K:Int->aa->Prop}(h:bK H k t p b rest)(a:∀H',bK H' k t p (b.cE e) rest->Mod (λq=>q=k) H H'->H'.size=H.size->K e H'):C8.sp (aK k) e H K:=by
 refine C8.of ?_;unfold C8.vc;unfold Rb.cE at a;simp only[aw,aK];refine ah (λc=>?_) (λc=>?_)
 ·rw[if_pos (by simpa using c)] at a;refine ao.st h (i:=4) (by simp[b8]) rfl λH' f m hs=>?_;rw[yN] at f;exact a H' f m hs
 ·rw[if_neg (by simpa using c)] at a;exact a H h (.refl _ _) rfl
theorem Step.size {F F':Nat->Prop}{H H':aa}(h:Step F F' H H'):H.size<=H'.size:=h.mod.size
theorem Dv {kd:UInt8}{sl:Sl}{l:List UInt8}{K:Int->aa->Prop}(R:Gl H)(h:bK H k t p b rest)(S:aA F H p dp s)(hk:¬F k)(U:bW H sl l)(hsl:∀ad,sl.a=some ad->¬F ad.block)
  (Y:b.name.size<=9223372036854775807) (z:s.d.aH<68719470000) (A:s.next<1099511627776) (Z:0<=s.next) (m:s.Fit)
  (a:∀F' H',aA F' H' p dp (s.more b.name kd l).1->Step F F' H H'->K (s.more b.name kd l).2 H'):IS.sp (aK k) (kd.toNat:Int) sl H K:=by
 have af:=aI h;refine IS.of ?_;unfold IS.vc;simp only[aw,aK];refine ao.ld (c:=aB) (i:=0) (x:=aK p) h (bK.get 0 _ rfl) ?_;refine ao.ld (c:=aN) (i:=1) (x:=b.name) h (bK.get 1 _ rfl) ?_;refine Gi R S Y (by omega) (by omega) m λB H1 p1 f=>?_;have g:Gl H1:=R.mod f.mod S.fi;have h1:bK H1 k t p b rest:=h.mod f.mod hk;have C:¬B k:=λq=>(f.own k q).elim hk λr=>by omega
 have D:bW H1 sl l:=U.ar λad v hl=>f.mod.same _ hl (hsl ad v);have V:∀ad,sl.a=some ad->l≠[]->¬B ad.block:=λad v E q=>by
  obtain⟨al,o,an⟩:=U.addr (List.length_pos_iff.2 E);rw[v] at o;cases o;rcases f.own _ q with r|r
  ·exact hsl ad v r
  ·omega
 unfold Pl.more at a;have X:(s.fresh b.name).1.next<=s.next+1:=s.oP Z A
 generalize a1:(s.fresh b.name).1=s1 at*;generalize hr:(s.fresh b.name).2.1=hd at*;generalize he:(s.fresh b.name).2.2.2=e at*;by_cases y:e=0
 ·subst y;rw[if_neg (by simp)] at a;by_cases G:kd=0
  ·subst G;rw[if_pos rfl] at a;refine aE (by simp) ?_;refine aR (by simp) ?_;refine ao.ld (c:=aB) (i:=0) (x:=aK p) h1 (bK.get 0 _ rfl) ?_;refine pI g p1 (by omega) λI u p2 j=>?_;have el:Pl.leave (s1,0) hd=s1.bk hd:=if_pos rfl;rw[el] at a;exact a I u p2 (f.trans j)
  ·have J:((kd.toNat:Int)!=0)=true:=by
    have:kd.toNat≠0:=λq=>G (Tp.1 q);simp;omega
   rw[if_neg G] at a;refine aR (by rw[J];rfl) ?_;refine ao.ld (c:=aB) (i:=0) (x:=aK p) h1 (bK.get 0 _ rfl) ?_;refine FR g p1 D λI u p2 j=>?_;have M:Gl u:=g.mod j.mod p1.fi;have h2:bK u k t p b rest:=h1.mod j.mod C;have a6:(s1.set hd kd l).1.next=s1.next:=s1.j5 hd kd l
   generalize a7:s1.set hd kd l=s2 at*;refine ah (λO=>?_) (λO=>?_)
   ·have Q:s2.2=0:=by simpa using O
    refine ao.ld (c:=aB) (i:=0) (x:=aK p) h2 (bK.get 0 _ rfl) ?_;refine pI M p2 (by omega) λF3 H3 p3 S3=>?_;have el:Pl.leave s2 hd=s2.1.bk hd:=if_pos Q;rw[el] at a;exact a F3 H3 p3 ((f.trans j).trans S3)
   ·have Q:s2.2≠0:=by simpa using O
    have el:Pl.leave s2 hd=s2:=if_neg Q;rw[el] at a;exact a I u p2 (f.trans j)
 ·rw[if_pos y] at a;refine aE (by simp[y]) ?_;refine aE (by simpa using y) ?_;exact a B H1 p1 f
theorem Ad {g:Int}{K:(Int×Sl×Int)->aa->Prop}(Q:Gl H)(h:bK H k t p b rest)(R:aA F H p dp s)(hk:¬F k)(y:0<=g/\g<=9223372036854775807)
  (V:b.name.size<=9223372036854775807) (z:s.d.aH<68719470000) (A:s.next<1099511627776) (X:0<=s.next)
  (a:∀F' H' sl,aA F' H' p dp (s.look b.name g).1->Step F F' H H'->aF EB fU H' sl (s.look b.name g).2.2.1->(∀q,ai sl q->H.size<=q/\¬F' q)->(s.look b.name g).2.2.1.length<=504->K (((s.look b.name g).2.1.toNat:Int),sl,(s.look b.name g).2.2.2) H'):KB.sp (aK k) g H K:=by
 have Y:=aI h;refine KB.of ?_;unfold KB.vc;simp only[aw,aK];refine ao.ld (c:=aB) (i:=0) (x:=aK p) h (bK.get 0 _ rfl) ?_;refine ao.ld (c:=aN) (i:=1) (x:=b.name) h (bK.get 1 _ rfl) ?_;refine Gd Q R V (by omega) y.2 (by omega) (by omega) λB H1 p1 j=>?_;have C:Gl H1:=Q.mod j.mod R.fi;have h1:bK H1 k t p b rest:=h.mod j.mod hk;have S:(s.bF b.name g).1.next<=s.next+1:=s.mF X A
 unfold Pl.look at a;generalize Z:(s.bF b.name g).1=s1 at*;generalize hr:(s.bF b.name g).2.1=hd at*;generalize he:(s.bF b.name g).2.2=e at*;refine ah (λD=>?_) (λD=>?_)
 ·have E:e≠0:=by simpa using D
  rw[if_pos E] at a;exact a B H1 _ p1 j (aF.nil _ _ _) (λq ⟨ad,ha,_⟩=>by cases ha) (by simp)
 ·have E:¬e≠0:=by simpa using D
  rw[if_neg E] at a;refine ao.ld (c:=aB) (i:=0) (x:=aK p) h1 (bK.get 0 _ rfl) ?_;refine MS p1 λsl u G v f2=>?_;have p2:=p1.ext v;have I:Gl u:=C.mod v id;have h2:bK u k t p b rest:=h1.ext v;have U:Step F B H u:=j.trans ⟨v.mod,λb hb=>.inl hb⟩;have o:=Pl.CX p1.wf hd;generalize af:s1.get hd=r at*;refine ah (λf=>?_) (λf=>?_)
  ·have J:¬r.2.2≠0:=by simpa using f
   rw[if_neg J] at a;refine ao.ld (c:=aB) (i:=0) (x:=aK p) h2 (bK.get 0 _ rfl) ?_;refine pI I p2 (by omega) λF3 H3 p3 M=>?_;have O:=G.lt;refine a F3 H3 sl p3 (U.trans M) (G.ar λq m hl=>M.mod.same q hl λr=>by have:=p1.lt q r;have:=f2 q m;omega) (λq m=>?_) o;have q1:=f2 q m;have q2:=j.size;refine⟨by omega,λr=>?_⟩;rcases M.own q r with r|r
   ·have:=p1.lt q r;omega
   ·have:=O q m;omega
  ·have J:r.2.2≠0:=by simpa using f
   rw[if_pos J] at a;refine a B u sl p2 U G (λq m=>?_) o;have q1:=f2 q m;have q2:=j.size;exact⟨by omega,λr=>by have:=p1.lt q r;omega⟩
end
end
section
open Go.MapKept
theorem qC {s:Sl}{l:List Int}{H:aa}{K:Sl->aa->Prop}(h:Ints .u64 H s l)(hl:l.length<=1000000)
  (g:∀s' H',aO H' 0 fM 1 s' (l.map (QT .u64))->Ext H H'->(∀b,ai s' b->H.size<=b)->K s' H'):IX.sp s H K:=by
 refine IX.of ?_;unfold IX.vc;have y:=h.len;refine ah (λa=>?_) (λa=>?_)
 ·have:l=[]:=by
   cases l with
   |nil=>rfl
   |cons x r=>
     obtain⟨ad,m,_⟩:=h.at (i:=0) (by simp);rw[m] at a;cases a
  subst this;exact g _ H (aO.nil _ _ _ _) (.refl _ _) (by rintro b ⟨ad,q,_⟩;cases q)
 ·refine au λH1 s1 o m1=>?_;have u:aO H1 0 fM 1 (Sl.mk (some ⟨H.size,0,none⟩) 0 0) []:=⟨rfl,.inr ⟨H.size,0,#[],rfl,Q5 _,o,QN _,by unfold maxLen;omega,rfl,rfl⟩⟩;refine jR.append (s:=Sl.mk (some ⟨H.size,0,none⟩) 0 0) (x:=s) (ws:=l.map (QT .u64)) u (by simp;omega) (h.ext m1).reads (oa _ _) (by simp;omega) (by simp;omega) (by omega) λs' H' _ v j f' _=>?_;have m2:Ext H H':=⟨QZ m1.size j.size,λb c _=>(j.same b (by omega) (by rintro⟨ad,e,f⟩;cases e;have:H.size=b:=f;omega)).trans (m1.same b c id)⟩;refine g s' H' (by simpa using v) m2 λb c=>?_;rcases f' b c with ⟨ad,e,f⟩|q
  ·cases e;have:H.size=b:=f;omega
  ·omega
structure qw (H:aa)(k p:Nat)(w:RW)(sw sl:Sl):Prop where
 row:bK H k IA p w.b [sw.v,.int .i64 (w.n:Int),sl.v,.int .i64 (w.rows:Int)]
 wait:aF EB fU H sw w.wait
 last:aO H 0 fM 1 sl (w.last.map (QT .u64))
def dH (k:Nat)(sw sl:Sl)(b:Nat):Prop:=b=k\/ai sw b\/ai sl b
section
variable {H:aa}{k p dp:Nat}{w:RW}{sw sl:Sl}{F:Nat->Prop}{s:Pl}
theorem qw.j9 (h:qw H k p w sw sl):¬ai sw k:=λq=>by
 obtain⟨cur,a⟩:=h.wait.obj k q;exact absurd (aM a h.row) (by decide)
theorem qw.AT (h:qw H k p w sw sl):¬ai sl k:=λq=>by
 obtain⟨cur,a⟩:=h.last.obj k q;exact absurd (aM a h.row) (by decide)
theorem qw.lt (h:qw H k p w sw sl):∀b,dH k sw sl b->b<H.size:=by
 rintro b (rfl|q|q)
 ·exact aI h.row
 ·exact h.wait.lt b q
 ·exact h.last.lt b q
theorem qw.ar {H':aa}(h:qw H k p w sw sl)(e:∀b,dH k sw sl b->b<H.size->H'[b]?=H[b]?):qw H' k p w sw sl:=
 ⟨(e k (.inl rfl) (aI h.row)).trans h.row,h.wait.ar λb a hl=>e b (.inr (.inl a)) hl,h.last.ar λb a hl=>e b (.inr (.inr a)) hl⟩
theorem qw.mod {G:Nat->Prop}{H':aa}(h:qw H k p w sw sl)(m:Mod G H H')(a:∀b,dH k sw sl b->¬G b):qw H' k p w sw sl:=h.ar λb c hl=>m.same b hl (a b c)
theorem CV {K:Int->aa->Prop}(Q:Gl H)(h:qw H k p w sw sl)(J:aA F H p dp s)(hd:∀b,F b->¬dH k sw sl b)
  (R:w.b.name.size<=9223372036854775807) (a:s.d.aH<68719470000) (B:s.next<1099511627776) (S:0<=s.next) (g:s.Fit)
  (y:∀F' m H',aA F' H' p dp (w.out s).1->qw H' k p (w.out s).2.1 m sl->(∀b,ai m b->ai sw b)->Mod (λb=>F b\/b=k) H H'->(∀b,F' b->F b\/H.size<=b)->K (w.out s).2.2 H'):KE.sp (aK k) H K:=by
 refine KE.of ?_;unfold KE.vc;simp only[aw,aK];refine ao.ld (c:=ab .i64) (i:=7) (x:=(w.n:Int)) h.row (bK.tail (j:=1) rfl) ?_;refine ah (λz=>?_) (λz=>?_)
 ·have C:w.n=0:=by
   have:(w.n:Int)=0:=by simpa using z
   omega
  have D:w.out s=(s,w,0):=if_pos C;rw[D] at y;exact y F sw H J h (λb q=>q) (.refl _ _) (λb q=>.inl q)
 ·have C:¬w.n=0:=λq=>by rw[q] at z;simp at z
  have D:w.out s=((s.more w.b.name 1 w.wait).1,{w with b:=w.b.cE (s.more w.b.name 1 w.wait).2,wait:=[],n:=0},(s.more w.b.name 1 w.wait).2):=if_neg C;rw[D] at y;have o:¬F k:=λq=>hd k q (.inl rfl);refine ao.ld (c:=aq) (i:=6) (x:=sw) h.row (bK.tail (j:=0) rfl) ?_;refine Dv (kd:=1) Q h.row J o (cg h.wait) (λad U q=>hd _ q (.inr (.inl ⟨ad,U,rfl⟩))) R a B S g λM H1 p1 A=>?_;have h1:=h.mod A.mod λb f q=>hd b q f;have V:=aI h.row;have u:¬M k:=λq=>(A.own k q).elim o λr=>by omega
  generalize (s.more w.b.name 1 w.wait).1=s1 at*;generalize (s.more w.b.name 1 w.wait).2=e at*;refine ao.st h1.row (i:=6) (by simp[b8]) rfl λZ r2 m2 z2=>?_;refine ao.st r2 (i:=7) (by simp[b8]) rfl λX O m3 z3=>?_;have E:bK X k IA p w.b [(Sl.mk none 0 0).v,.int .i64 ((0:Nat):Int),sl.v,.int .i64 (w.rows:Int)]:=by
   have e:(((b8 p w.b++[sw.v,.int .i64 (w.n:Int),sl.v,.int .i64 (w.rows:Int)]).toArray.setIfInBounds 6 (.slice none 0 0)).setIfInBounds 7 (.int .i64 (0:Int)))=(b8 p w.b++[(Sl.mk none 0 0).v,.int .i64 ((0:Nat):Int),sl.v,.int .i64 (w.rows:Int)]).toArray:=by
    simp[b8]
   rw[e] at O;exact O
  refine qY E λG Y m4 z4=>?_;have m14:Mod (λq=>q=k) H1 G:=(m2.trans m3).trans m4;have I:Mod (λb=>F b\/b=k) H G:=(A.mod.mono λb _ q=>.inl q).trans' m14 λb f q=>.inr q;refine y M (Sl.mk none 0 0) G (p1.ar λb f hl=>m14.same b hl λq=>u (q▸f)) ⟨Y,aF.nil _ _ _,h1.last.ar λb f hl=>m14.same b hl λq=>h1.AT (q▸f)⟩ (by rintro b ⟨ad,q,_⟩;cases q) I A.own
theorem qP (l:List Int):(fh l).length<=8*l.length+1:=by
 unfold fh;split
 ·simp
 ·rw[List.length_flatMap];have:∀l:List Int,(l.map λx=>(fk x).length).sum=8*l.length:=by
   intro l
   induction l with
   |nil=>rfl
   |cons x l a=>rw[Q7,RS,a];simp[fk];omega
  have:=this l;omega
theorem kP {l:List Int}(h:∀x∈l,0<=x/\x<256):gP (cZ l)=l.map (QT .u8):=by
 rw[<-gZ,Bn h]
theorem Gk {l:Sl}{ll:List Int}{K:Int->aa->Prop}(hg:Gl H)(S:¬dH k sw sl bt)(h:qw H k p w sw sl)(R:aA F H p dp s)(hd:∀b,F b->¬dH k sw sl b)
  (hl:Ints .u64 H l ll) (U:∀ad,l.a=some ad->¬dH k sw sl ad.block) (hlen:(ll.length:Int)=w.b.width->ll.length<=1000000) (a7:w.wait.length<=1000000) (a8:w.rows<1099511627776) (bb:w.n<1099511627776)
  (hn:w.b.name.size<=9223372036854775807) (G:s.d.aH<68719470000) (af:s.next<1099511627776) (h0:0<=s.next) (V:s.Fit)
  (m:∀F' f I H',aA F' H' p dp (w.add s ll).1->qw H' k p (w.add s ll).2.1 f I->(∀b,F' b->¬dH k f I b)->Step (λb=>F b\/dH k sw sl b) (λb=>F' b\/dH k f I b) H H'->K (w.add s ll).2.2 H'):AK.sp (aK k) l H K:=by
 refine AK.of ?_;unfold AK.vc;unfold aK;refine aE rfl ?_;simp only[aw];have X:=hl.len;unfold RW.add at m;refine qM h.row ?_;refine ah (λg=>?_) (λg=>?_)
 ·have e0:w.b.ready≠0:=by simpa using g
  rw[if_pos e0] at m;exact m F sw sl H R h hd (.refl _ _)
 have e0:¬w.b.ready≠0:=by simpa using g
 rw[if_neg e0] at m;refine⟨λ_ A=>A=H/\¬((ll.length:Int)≠w.b.width)/\¬(0<w.rows/\aX ll w.last<=0),?_,?_⟩
 ·refine ao.ld (c:=ab .i64) (i:=2) (x:=w.b.width) h.row (bK.get 2 _ rfl) ?_;refine ah (λg=>?_) (λg=>?_)
  ·have J:(ll.length:Int)≠w.b.width:=by rw[<-X];simpa using g
   rw[if_pos J] at m;exact m F sw sl H R h hd (.refl _ _)
  have J:¬((ll.length:Int)≠w.b.width):=by rw[<-X];simpa using g
  rw[if_neg J] at m;have hlen:=hlen (by omega);refine ao.ld (c:=ab .i64) (i:=9) (x:=(w.rows:Int)) h.row (bK.tail (j:=3) rfl) ?_;refine ah (λg=>?_) (λg=>?_)
  ·have Y:0<w.rows:=by
    have:(w.rows:Int)>0:=by simpa using g
    omega
   refine ao.ld (c:=aq) (i:=8) (x:=sl) h.row (bK.tail (j:=2) rfl) ?_;refine gU hl h.last.ints (by omega) ?_;refine ah (λg=>?_) (λg=>?_)
   ·have M:aX ll w.last<=0:=by simpa using g
    rw[if_pos ⟨Y,M⟩] at m;exact m F sw sl H R h hd (.refl _ _)
   ·have M:¬aX ll w.last<=0:=by simpa using g
    exact⟨rfl,J,λq=>M q.2⟩
  ·have Y:¬0<w.rows:=by
    have:¬(w.rows:Int)>0:=by simpa using g
    omega
   exact⟨rfl,J,λq=>Y q.1⟩
 rintro _ A ⟨rfl,J,Y⟩;rw[if_neg J,if_neg Y] at m;have hlen:=hlen (by omega);refine⟨λA=>bK A k IA p w.b [sw.v,.int .i64 (w.n:Int),sl.v,.int .i64 (w.rows:Int)],h.row,?_⟩;refine ao.dE (c:=aq) (i:=6) (x:=sw) (cs:=λ_=>_) (λ_ q=>q) (λ_ _=>bK.tail (j:=0) rfl) ?_;refine vQ hl hlen λr A1 o1 x1=>?_;have h1:=h.mod x1 λ_ _=>id;refine⟨h1.row,?_⟩;have bd:(fh ll).length<=8*1000000+1:=by have:=qP ll;omega
 have al:bX EB A1 r.a (cZ (fh ll)):=by
  unfold bX;rw[jc,kP (lg ll)];exact o1.reads
 have rn:r.n=(cZ (fh ll)).length:=by have:=o1.1;simpa using this.symm
 refine aF.append jM h1.wait al rn (by rw[cv];omega) (by rw[cv];omega) λs' A2 o2 g2 _=>?_;have bh:=aI h.row;have z1:=x1.size;have z2:=g2.1.size;have r2:bK A2 k IA p w.b [sw.v,.int .i64 (w.n:Int),sl.v,.int .i64 (w.rows:Int)]:=h1.row.mod g2.1 h.j9;have l2:Ints .u64 A2 l ll:=(hl.ext x1).mod g2.1 λad ha q=>U ad ha (.inr (.inl q));have q2:aO A2 0 fM 1 sl (w.last.map (QT .u64)):=h1.last.mod g2.1 λb a q=>h1.last.apart h1.wait (by decide) b a q;refine ao.st r2 (i:=6) (by simp[b8]) rfl λA3 r3 m3 z3=>?_;have D:¬ai s' k:=λq=>by
  rcases g2.2 k q with u|u
  ·exact h.j9 u
  ·omega
 have l3:Ints .u64 A3 l ll:=l2.mod m3 λad ha q=>U ad ha (.inl q);have o3:aF EB fU A3 s' (w.wait++cZ (fh ll)):=o2.mod m3 λb a q=>D (q▸a);refine qC l3 hlen λc A4 o4 x4 f4=>?_;have r4:=r3.ext x4;have an:¬ai c k:=λq=>by have:=f4 k q;have:=m3.size;omega
 refine ao.st r4 (i:=8) (by simp[b8]) rfl λA5 r5 m5 z5=>?_;refine ao.ld (c:=ab .i64) (i:=9) (x:=(w.rows:Int)) r5 (by simp[b8]) ?_;refine ao.st r5 (i:=9) (by simp[b8]) rfl λA6 r6 m6 z6=>?_;refine ao.ld (c:=ab .i64) (i:=7) (x:=(w.n:Int)) r6 (by simp[b8]) ?_;refine ao.st r6 (i:=7) (by simp[b8]) rfl λB r7 m7 z7=>?_;rw[aD w.rows (by omega)] at r7;rw[aD w.n (by omega)] at r7;have O:bK B k IA p w.b [s'.v,.int .i64 ((w.n+1:Nat):Int),c.v,.int .i64 ((w.rows+1:Nat):Int)]:=by
  have e:(((((b8 p w.b++[sw.v,.int .i64 (w.n:Int),sl.v,.int .i64 (w.rows:Int)]).toArray.setIfInBounds 6 s'.v).setIfInBounds 8 c.v).setIfInBounds 9 (.int .i64 ((w.rows+1:Nat):Int))).setIfInBounds 7 (.int .i64 ((w.n+1:Nat):Int)))=(b8 p w.b++[s'.v,.int .i64 ((w.n+1:Nat):Int),c.v,.int .i64 ((w.rows+1:Nat):Int)]).toArray:=by
   simp[b8]
  rw[e] at r7;exact r7
 have Q:Mod (λq=>q=k) A4 B:=(m5.trans m6).trans m7;have Z:qw B k p (w.push ll) s' c:=⟨O,(o3.ext x4).mod Q λb a q=>D (q▸a),o4.mod Q λb a q=>an (q▸a)⟩;have C:Mod (λb=>b=k\/ai sw b) A B:=by
  have a1:Mod (λb=>b=k\/ai sw b) A A2:=x1.mod.trans' g2.1 λb _ q=>.inr q;have a2:Mod (λb=>b=k\/ai sw b) A A3:=a1.trans' m3 λb _ q=>.inl q;have a3:Mod (λb=>b=k\/ai sw b) A A4:=a2.trans' x4 λb _ q=>q.elim;exact a3.trans' Q λb _ q=>.inl q
 have v:∀b,ai s' b->ai sw b\/A.size<=b:=λb a=>(g2.2 b a).imp_right λq=>by omega
 have E:∀b,ai c b->A.size<=b:=λb a=>by have:=f4 b a;have:=m3.size;omega
 have p7:aA F B p dp s:=R.ar λb a a6=>C.same b a6 λq=>hd b a (q.imp_right .inl);have y:∀b,F b->¬dH k s' c b:=by
  rintro b a (q|q|q)
  ·exact hd b a (.inl q)
  ·rcases v b q with u|u
   ·exact hd b a (.inr (.inl u))
   ·have:=R.lt b a;omega
  ·have:=E b q;have:=R.lt b a;omega
 have S7:∀(F':Nat->Prop) (f:Sl) (H':aa),(∀b,ai f b->ai s' b)->Mod (λb=>F b\/b=k) B H'->(∀b,F' b->F b\/B.size<=b)->Step (λb=>F b\/dH k sw sl b) (λb=>F' b\/dH k f c b) A H':=by
  intro F' f H' h1 h2 h3;have bl:=C.size;refine⟨(C.mono λb _ q=>.inr (q.imp_right .inl)).trans' h2 λb _ q=>q.imp_right .inl,λb a=>?_⟩;rcases a with q|q|q|q
  ·rcases h3 b q with u|u
   ·exact .inl (.inl u)
   ·right;omega
  ·exact .inl (.inr (.inl q))
  ·rcases v b (h1 b q) with u|u
   ·exact .inl (.inr (.inr (.inl u)))
   ·exact .inr u
  ·exact .inr (E b q)
 refine ao.ld (c:=ab .i64) (i:=7) (x:=((w.n+1:Nat):Int)) O (bK.tail (j:=1) rfl) ?_;refine ao.ld (c:=ab .i64) (i:=3) (x:=aL w.b.width) O (bK.get 3 _ rfl) ?_;refine ah (λg=>?_) (λg=>?_)
 ·have M:((w.n+1:Nat):Int)<aL w.b.width:=by simpa using g
  rw[if_pos M] at m;exact m F s' c B p7 Z y (S7 F s' B (λ_ q=>q) (.refl _ _) λb q=>.inl q)
 ·have M:¬((w.n+1:Nat):Int)<aL w.b.width:=by simpa using g
  rw[if_neg M] at m;refine CV (hg.ar (C.same _ hg.lt ?_)) Z p7 y hn G af h0 V λF' f H' p8 h8 z m8 o=>m F' f c H' p8 h8 ?_ (S7 F' f H' z m8 o)
  ·rintro(q|q)
   ·exact S (.inl q)
   ·exact S (.inr (.inl q))
  ·rintro b a (q|q|q)
   ·rcases o b a with u|u
    ·exact y b u (.inl q)
    ·have:=Z.lt b (.inl q);omega
   ·rcases o b a with u|u
    ·exact y b u (.inr (.inl (z b q)))
    ·have:=Z.lt b (.inr (.inl (z b q)));omega
   ·rcases o b a with u|u
    ·exact y b u (.inr (.inr q))
    ·have:=Z.lt b (.inr (.inr q));omega
theorem C1 {l:Sl}{ll:List Int}{K:Int->aa->Prop}(x:Gl H)(g:¬dH k sw sl bt)(h:qw H k p w sw sl)(y:aA F H p dp s)(hd:∀b,F b->¬dH k sw sl b)
  (hl:Ints .u64 H l ll) (j:∀ad,l.a=some ad->¬dH k sw sl ad.block) (hlen:ll.length<=1000000) (m:w.wait.length<=1000000) (o:w.rows<1099511627776) (u:w.n<1099511627776)
  (z:w.b.name.size<=9223372036854775807) (a:s.d.aH<68719470000) (v:s.next<1099511627776) (A:0<=s.next) (f:s.Fit)
  (B:∀F' c e H',aA F' H' p dp (w.add s ll).1->qw H' k p (w.add s ll).2.1 c e->(∀b,F' b->¬dH k c e b)->Step (λb=>F b\/dH k sw sl b) (λb=>F' b\/dH k c e b) H H'->K (w.add s ll).2.2 H'):AK.sp (aK k) l H K:=Gk x g h y hd hl j (λ_=>hlen) m o u z a v A f B
end
end
section
open Go.MapKept
structure iB (H0:aa)(F0:Nat->Prop)(k p dp:Nat)(sw sl:Sl)(F:Nat->Prop)(A:aa)(s:Pl)(w:RW):Prop where
 aj:aA F A p dp s
 wr:qw A k p w sw sl
 dis:∀b,F b->¬dH k sw sl b
 mod:Mod (λb=>F0 b\/b=k) H0 A
 own:∀b,F b->F0 b\/H0.size<=b
section
variable {H0:aa}{F0:Nat->Prop}{k p dp:Nat}{sw sl:Sl}{F:Nat->Prop}{A:aa}{s:Pl}{w:RW}
theorem iB.step {F':Nat->Prop}{c:aa}{s':Pl}(h:iB H0 F0 k p dp sw sl F A s w)(e:aA F' c p dp s')(S:Step F F' A c):iB H0 F0 k p dp sw sl F' c s' w:=by
 refine⟨e,h.wr.mod S.mod λb a q=>h.dis b q a,λb a q=>?_,h.mod.trans' S.mod λb a q=>?_,λb a=>?_⟩
 ·rcases S.own b a with r|r
  ·exact h.dis b r q
  ·have:=h.wr.lt b q;omega
 ·rcases h.own b q with r|r
  ·exact .inl r
  ·omega
 ·rcases S.own b a with r|r
  ·exact h.own b r
  ·right;have:=h.mod.size;omega
theorem iB.ext {a:aa}(h:iB H0 F0 k p dp sw sl F A s w)(e:Ext A a):iB H0 F0 k p dp sw sl F a s w:=h.step (h.aj.ext e) ⟨e.mod,λ_ q=>.inl q⟩
theorem iB.gl (h:iB H0 F0 k p dp sw sl F A s w)(a:Gl H0)(h1:¬F0 bt)(c:bt≠k):Gl A:=a.ar (h.mod.same _ a.lt λq=>q.elim h1 c)
theorem iB.dz {c:aa}{w':RW}{a:Sl}(h:iB H0 F0 k p dp sw sl F A s w)(m:Mod (λb=>b=k) A c)(hw:qw c k p w' a sl)(hs:∀b,ai a b->ai sw b):iB H0 F0 k p dp a sl F c s w':=by
 refine⟨h.aj.ar λb e hl=>m.same b hl λq=>h.dis b e (.inl q),hw,λb e q=>h.dis b e (q.imp_right λr=>r.imp_left (hs b)),h.mod.trans' m λb _ q=>.inr q,h.own⟩
theorem iB.Om {e:aa}{G:Nat->Prop}{n:Nat}(h:iB H0 F0 k p dp sw sl F A s w)(m:Mod G A e)(c:∀b,G b->n<=b)(f:∀b,F b->b<n)(hw:∀b,dH k sw sl b->b<n)(g:H0.size<=n):iB H0 F0 k p dp sw sl F e s w:=
 ⟨h.aj.ar λb a hl=>m.same b hl λq=>by have:=c b q;have:=f b a;omega,h.wr.mod m λb a q=>by have:=c b q;have:=hw b a;omega,h.dis,h.mod.trans' m λb a q=>by have:=c b q;omega,h.own⟩
theorem Lo {n:Nat}(h:n<18446744073709551616):Rj.wrap (n:Int)=(n:Int):=by
 have:((n:Int)%18446744073709551616)=n:=Int.emod_eq_of_lt (by omega) (by omega);exact this
theorem Gx {A:aa}{t:Nat}{x:UInt8}(r:ao A t fU #[.int .u8 (x.toNat:Int)]):aF EB fU A (Sl.mk (some ⟨t,0,none⟩) 1 1) [x]:=
 ⟨rfl,.inr ⟨t,1,#[.int .u8 (x.toNat:Int)],rfl,Q5 _,r,QN _,by unfold maxLen;omega,rfl,rfl⟩⟩
theorem yJ {A:aa}{t:Nat}{x:Int}(r:ao A t fM #[.int .u64 x]):Ints .u64 A (Sl.mk (some ⟨t,0,none⟩) 1 1) [x]:=by
 refine⟨rfl,λi v a=>⟨_,rfl,?_⟩⟩;rw[bg];exact r.cell (by simpa using a)
set_option maxHeartbeats 1000000 in
theorem wO {H:aa}{K:(Int×Int)->aa->Prop}(hg:Gl H)(bA:¬dH k sw sl bt)(h:qw H k p w sw sl)(hp:aA F H p dp s)(hd:∀b,F b->¬dH k sw sl b)
  (bB:w.rows<1099511627776) (bC:0<=w.b.width) (hn:w.b.name.size<=9223372036854775807) (bD:s.d.aH<68719460000) (b1:s.next<1099511620000) (h0:0<=s.next) (a1:s.Fit)
  (b2:(w.out s).1.d.aH<68719465000) (b3:(w.out s).1.next<1099511625000)
  (a6:∀h hd,(Pl.leave (((w.out s).1.bF w.b.name 0).1.set h 2 hd) h).1.d.aH<68719470000)
  (I:∀F' m H',aA F' H' p dp (w.close s).1->qw H' k p (w.close s).2.1 m sl->(∀b,F' b->¬dH k m sl b)->Step (λb=>F b\/dH k sw sl b) (λb=>F' b\/dH k m sl b) H H'->K (((w.close s).2.2.1:Int),(w.close s).2.2.2) H'):GU.sp (aK k) H K:=by
 refine GU.of ?_;unfold GU.vc;unfold aK;refine aE rfl ?_;simp only[aw];unfold RW.close at I;refine qM h.row ?_;by_cases e0:w.b.ready≠0
 ·rw[if_pos e0] at I;refine aE (by simpa using e0) ?_;refine aR (by simpa using e0) ?_;exact I F sw H hp h hd (.refl _ _)
 rw[if_neg e0] at I;refine aR (by simpa using e0) ?_;have B0:iB H F k p dp sw sl F H s w:=⟨hp,h,hd,.refl _ _,λb q=>.inl q⟩;refine CV hg h hp hd hn (by omega) (by omega) h0 a1 λF1 f H1 p1 h1 u m1 D=>?_;have a7:0<=(w.out s).1.next:=by have:=p1.wf.tick;omega
 have B1:iB H F k p dp f sl F1 H1 (w.out s).1 (w.out s).2.1:=by
  refine⟨p1,h1,?_,m1,D⟩;rintro b v (q|q|q)
  ·rcases D b v with r|r
   ·exact hd b r (.inl q)
   ·have:=h.lt b (.inl q);omega
  ·rcases D b v with r|r
   ·exact hd b r (.inr (.inl (u b q)))
   ·have:=h.lt b (.inr (.inl (u b q)));omega
  ·rcases D b v with r|r
   ·exact hd b r (.inr (.inr q))
   ·have:=h.lt b (.inr (.inr q));omega
 -- the end of all
 have fin:∀(F':Nat->Prop) (m:Sl) (A:aa) (s':Pl) (w':RW),(∀b,ai m b->ai sw b)->iB H F k p dp m sl F' A s' w'->Step (λb=>F b\/dH k sw sl b) (λb=>F' b\/dH k m sl b) H A:=by
  intro F' m A s' w' hs B;refine⟨B.mod.mono λb _ q=>q.imp_right .inl,λb v=>?_⟩;rcases v with q|q|q|q
  ·rcases B.own b q with r|r
   ·exact .inl (.inl r)
   ·exact .inr r
  ·exact .inl (.inr (.inl q))
  ·exact .inl (.inr (.inr (.inl (hs b q))))
  ·exact .inl (.inr (.inr (.inr q)))
 refine ah (λg=>?_) (λg=>?_)
 ·have e1:(w.out s).2.2≠0:=by simpa using g
  rw[if_pos e1] at I;exact I F1 f H1 p1 h1 B1.dis (fin F1 f H1 _ _ u B1)
 have e1:¬(w.out s).2.2≠0:=by simpa using g
 rw[if_neg e1] at I;have bM:(w.out s).2.1.b=w.b/\(w.out s).2.1.rows=w.rows:=by
  unfold RW.out at e1 ⊢;split
  ·exact⟨rfl,rfl⟩
  ·rename_i hq;rw[if_neg hq] at e1;refine⟨?_,rfl⟩;show w.b.cE _=_;unfold Rb.cE;rw[if_neg e1]
 obtain⟨a8,bb⟩:=bM;rw[<-a8] at hn a6 bC;rw[<-bb] at bB;have V:¬F bt:=hp.fi;have X:bt≠k:=λq=>bA (.inl q);generalize b4:(w.out s).1=s1 at*;generalize b5:(w.out s).2.1=a at*;refine ao.ld (c:=aB) (i:=0) (x:=aK p) h1.row (bK.get 0 _ rfl) ?_;refine ao.ld (c:=aN) (i:=1) (x:=a.b.name) h1.row (bK.get 1 _ rfl) ?_;refine Gd (B1.gl hg V X) p1 hn (by decide) (by decide) (by omega) (by omega) λF2 H2 p2 S2=>?_;have y:=B1.step p2 S2;have Y:(s1.bF a.b.name 0).1.next<=s1.next+1:=s1.mF a7 (by omega)
 have af:a.head s1=if (s1.bF a.b.name 0).2.2≠0 then ((s1.bF a.b.name 0).1,(s1.bF a.b.name 0).2.2) else
   if (Pl.leave ((s1.bF a.b.name 0).1.set (s1.bF a.b.name 0).2.1 2 (ft a.b.width a.rows)) (s1.bF a.b.name 0).2.1).2≠0 then Pl.leave ((s1.bF a.b.name 0).1.set (s1.bF a.b.name 0).2.1 2 (ft a.b.width a.rows)) (s1.bF a.b.name 0).2.1
   else (Pl.leave ((s1.bF a.b.name 0).1.set (s1.bF a.b.name 0).2.1 2 (ft a.b.width a.rows)) (s1.bF a.b.name 0).2.1).1.flush a.b.name:=rfl
 have bN:=(s1.bF a.b.name 0).1.j5 (s1.bF a.b.name 0).2.1 2 (ft a.b.width a.rows);have bd:=a6 (s1.bF a.b.name 0).2.1 (ft a.b.width a.rows);generalize (s1.bF a.b.name 0).1=s2 at*;generalize (s1.bF a.b.name 0).2.1=hh at*;generalize (s1.bF a.b.name 0).2.2=S at*
 -- what stands behind each cut
 obtain⟨J,G⟩:∃J:Pl×Int,J=if S≠0 then (s2,S) else s2.set hh 2 (ft a.b.width a.rows):=⟨_,rfl⟩
 obtain⟨X1,al⟩:∃X1:Pl×Int,X1=if S≠0 then (s2,S) else Pl.leave (s2.set hh 2 (ft a.b.width a.rows)) hh:=⟨_,rfl⟩
 have Z:X1=Pl.leave J hh:=by
  rw[al,G];by_cases q:S≠0
  ·rw[if_pos q,if_pos q];exact(if_neg q).symm
  ·rw[if_neg q,if_neg q]
 have bh:a.head s1=if X1.2≠0 then X1 else X1.1.flush a.b.name:=by
  rw[af,al];by_cases q:S≠0
  ·rw[if_pos q,if_pos q,if_pos q]
  ·rw[if_neg q,if_neg q]
 have b0:J.1.next<=s1.next+1:=by
  rw[G];by_cases q:S≠0
  ·rw[if_pos q];exact Y
  ·rw[if_neg q,bN];exact Y
 have bl:X1.2=0->X1.1.d.aH<68719470000:=by
  rw[al];by_cases q:S≠0
  ·rw[if_pos q];intro r;exact absurd r q
  ·rw[if_neg q];intro _;exact bd
 refine⟨λe A=>e=J.2/\∃F',iB H F k p dp f sl F' A J.1 a,?_,?_⟩
 ·refine ah (λg=>?_) (λg=>?_)
  ·have q:¬S≠0:=by simpa using g
   rw[if_neg q] at G;refine⟨λA=>bK A k IA p a.b [f.v,.int .i64 (a.n:Int),sl.v,.int .i64 (a.rows:Int)],y.wr.row,?_⟩;refine ao.dE (c:=aB) (i:=0) (x:=aK p) (cs:=λ_=>_) (λ_ q=>q) (λ_ _=>bK.get 0 _ rfl) ?_;refine ao.dE (c:=ab .i64) (i:=2) (x:=a.b.width) (cs:=λ_=>_) (λ_ q=>q) (λ_ _=>bK.get 2 _ rfl) ?_;refine ao.dE (c:=ab .i64) (i:=9) (x:=(a.rows:Int)) (cs:=λ_=>_) (λ_ q=>q) (λ_ _=>bK.tail (j:=3) rfl) ?_;have bO:RE.wrap a.b.width=((Rv a.b.width.toNat).toNat:Int):=by
    have:a.b.width=(a.b.width.toNat:Int):=by omega
    rw[this,pR];simp
   have bn:Rj.wrap (a.rows:Int)=(a.rows:Int):=Lo (by omega);rw[bO,bn];have O:∀(A:aa) (t:Nat) (K':Sl->aa->Prop),ao A t fM #[.int .u64 (a.rows:Int)]->(∀r U,bX EB U r.a (cZ (fh [(a.rows:Int)]))->r.n=(cZ (fh [(a.rows:Int)])).length->Ext A U->K' r U)->BY.sp (Sl.mk (some ⟨t,0,none⟩) 1 1) A K':=by
    intro A t K' r hk;refine vQ (yJ r) (by simp) λr U o x=>hk r U ?_ ?_ x
    ·unfold bX;rw[jc,kP (lg _)];exact o.reads
    ·have:=o.1;rw[cv];simpa using this.symm
   have tail:∀(A:aa) (F':Nat->Prop) (t:Nat) (r:Sl),iB H F k p dp f sl F' A s2 a->H2.size<=t->F'=F2->ao A t fU #[.int .u8 ((Rv a.b.width.toNat).toNat:Int)]->bX EB A r.a (cZ (fh [(a.rows:Int)]))->r.n=(cZ (fh [(a.rows:Int)])).length->
     bf aq QH (QM #[eK,eK] eK #[.slice (some ⟨t,0,none⟩) 1 1,r.v]) A λ(z:Sl) U=>bK U k IA p a.b [f.v,.int .i64 (a.n:Int),sl.v,.int .i64 (a.rows:Int)]/\
      AW.sp (aK p) hh (2:Int) z U λ(e:Int) bs=>bK bs k IA p a.b [f.v,.int .i64 (a.n:Int),sl.v,.int .i64 (a.rows:Int)]/\(e=J.2/\∃F',iB H F k p dp f sl F' bs J.1 a):=by
    intro A F' t r B ht hF rt hr C;subst hF;have o:=Gx rt;have bx:(cZ (fh [(a.rows:Int)])).length=8:=by rw[cv];simp[fh,fk]
    refine aF.append jM (s:=Sl.mk (some ⟨t,0,none⟩) 1 1) (x:=r) o hr C (by rw[bx];simp) (by rw[bx];simp) λz U oz gz _=>?_;have B':iB H F k p dp f sl F' U s2 a:=B.Om gz.1 (n:=H2.size) (by rintro b ⟨ad,q1,q2⟩;cases q1;subst q2;exact ht) (λb v=>p2.lt b v) (λb v=>y.wr.lt b v) y.mod.size;refine⟨B'.wr.row,?_⟩;refine FR (kd:=2) (B'.gl hg V X) B'.aj (cg oz) λF3 H3 p3 S3=>?_;have B3:=B'.step p3 S3;refine⟨B3.wr.row,?_⟩;rw[G];exact⟨rfl,F3,B3⟩
   refine⟨?_,?_⟩
   ·refine au λA1 z1 r1 M=>⟨(y.ext M).wr.row,?_⟩;refine au λA2 z2 r2 E=>⟨((y.ext M).ext E).wr.row,?_⟩;refine O A2 _ _ r2 λr A3 hr C Q=>⟨(((y.ext M).ext E).ext Q).wr.row,?_⟩;exact tail A3 F2 _ r (((y.ext M).ext E).ext Q) (QN _) rfl ((r1.ext E).ext Q) hr C
   ·refine au λA1 z1 r1 M=>⟨(y.ext M).wr.row,?_,?_⟩
    ·refine au λA2 z2 r2 E=>⟨((y.ext M).ext E).wr.row,?_⟩;refine O A2 _ _ (r1.ext E) λr A3 hr C Q=>⟨(((y.ext M).ext E).ext Q).wr.row,?_⟩;exact tail A3 F2 _ r (((y.ext M).ext E).ext Q) (by omega) rfl (r2.ext Q) hr C
    ·refine O A1 _ _ r1 λr A2 hr C E=>⟨((y.ext M).ext E).wr.row,?_⟩;refine au λA3 z3 r3 Q=>⟨(((y.ext M).ext E).ext Q).wr.row,?_⟩;have:=E.size;exact tail A3 F2 _ r (((y.ext M).ext E).ext Q) (by omega) rfl r3 (hr.ext Q) C
  ·have q:S≠0:=by simpa using g
   rw[if_pos q] at G;rw[G];exact⟨rfl,F2,y⟩
 rintro _ A3 ⟨rfl,F3,B3⟩;refine⟨λe A=>e=X1.2/\∃F',iB H F k p dp f sl F' A X1.1 a,?_,?_⟩
 ·refine ah (λg=>?_) (λg=>?_)
  ·have q:J.2=0:=by simpa using g
   refine ao.ld (c:=aB) (i:=0) (x:=aK p) B3.wr.row (bK.get 0 _ rfl) ?_;refine pI (B3.gl hg V X) B3.aj (by omega) λF4 H4 p4 S4=>?_;have e:X1=J.1.bk hh:=by rw[Z];exact if_pos q
   rw[e];exact⟨rfl,F4,B3.step p4 S4⟩
  ·have q:¬J.2=0:=by simpa using g
   have e:X1=J:=by rw[Z];exact if_neg q
   rw[e];exact⟨rfl,F3,B3⟩
 rintro _ A4 ⟨rfl,F4,B4⟩;refine⟨λe A=>e=(a.head s1).2/\∃F',iB H F k p dp f sl F' A (a.head s1).1 a,?_,?_⟩
 ·refine ah (λg=>?_) (λg=>?_)
  ·have q:X1.2=0:=by simpa using g
   refine ao.ld (c:=aB) (i:=0) (x:=aK p) B4.wr.row (bK.get 0 _ rfl) ?_;refine ao.ld (c:=aN) (i:=1) (x:=a.b.name) B4.wr.row (bK.get 1 _ rfl) ?_;refine Hy (B4.gl hg V X) B4.aj (bl q) λF5 H5 p5 S5=>?_;have e:a.head s1=X1.1.flush a.b.name:=by rw[bh];exact if_neg (by simpa using q)
   rw[e];exact⟨rfl,F5,B4.step p5 S5⟩
  ·have q:¬X1.2=0:=by simpa using g
   have e:a.head s1=X1:=by rw[bh];exact if_pos q
   rw[e];exact⟨rfl,F4,B4⟩
 rintro _ A5 ⟨rfl,F5,R⟩;unfold RW.ends at I;refine qY R.wr.row λA6 r6 m6 z6=>?_;refine ah (λg=>?_) (λg=>?_)
 ·have q:(a.head s1).2≠0:=by simpa using g
  rw[if_pos q] at I;have B6:iB H F k p dp f sl F5 A6 (a.head s1).1 {a with b:=a.b.cE (a.head s1).2}:=R.dz m6 ⟨r6,R.wr.wait.mod m6 λb v q=>R.wr.j9 (q▸v),R.wr.last.mod m6 λb v q=>R.wr.AT (q▸v)⟩ λ_ q=>q;exact I F5 f A6 B6.aj B6.wr B6.dis (fin F5 f A6 _ _ u B6)
 ·have q:¬(a.head s1).2≠0:=by simpa using g
  rw[if_neg q] at I;have eb:a.b.cE (a.head s1).2=a.b:=if_neg q;rw[eb] at r6;refine ao.st r6 (i:=5) (by simp[b8]) rfl λA7 r7 m7 z7=>?_;rw[qm] at r7;have an:=m6.trans m7;have B7:iB H F k p dp f sl F5 A7 (a.head s1).1 a.stop:=R.dz an ⟨r7,R.wr.wait.mod an λb v q=>R.wr.j9 (q▸v),R.wr.last.mod an λb v q=>R.wr.AT (q▸v)⟩ λ_ q=>q;refine ao.ld (c:=ab .i64) (i:=9) (x:=(a.rows:Int)) B7.wr.row (bK.tail (j:=3) rfl) ?_;exact I F5 f A7 B7.aj B7.wr B7.dis (fin F5 f A7 _ _ u B7)
end
end
section
open Go.MapKept
theorem Io {H:aa}{z:FZ}{K:Bool->aa->Prop}(f:dK H z.2 z.1)(g:K (!z.1.pins.isEmpty) H):FV.sp (aK z.2.p) H K:=by
 refine FV.of ?_;unfold FV.vc;simp only[aw];refine f.row.ld (c:=ab .i64) (i:=5) (x:=(z.1.pins.length:Int)) rfl ?_;have e:decide ((z.1.pins.length:Int)>0)=!z.1.pins.isEmpty:=by
  cases z.1.pins with
  |nil=>rfl
  |cons a l=>simp
 rw[e];exact g
theorem xz {H:aa}{s:Sl}{l:List FZ}{K:Int->aa->Prop}(h:aF dW uO H s (l.map λz=>z.2.p))(u:∀z∈l,dK H z.2 z.1)(hl:l.length<=1048576)
  (o:∀r:Int,decide (r>=0)=(l.any λz=>!z.1.pins.isEmpty)->K r H):KW.sp s H K:=by
 refine KW.of ?_;unfold KW.vc;have g:=h.n (by decide);rw[Rg] at g;refine av l.length (λk x H1=>H=H1/\x=(k:Int)/\∀z∈l.take k,z.1.pins.isEmpty=true) ⟨rfl,rfl,by simp⟩ ?_;rintro k _ _ next hk ⟨rfl,rfl,j⟩ c
 refine ah (λe=>?_) (λe=>?_)
 ·have a:k<l.length:=by rw[g] at e;simpa using e
  refine tq h (i:=k) (q:=l[k].2.p) (by simp[a]) rfl λad v=>?_;refine Io (u _ (Re a)) ?_;cases hs:l[k].1.pins.isEmpty with
  |false=>
    refine aR rfl (o _ ?_);rw[decide_eq_true (by omega)];exact(S9.2 ⟨l[k],Re a,by rw[hs];rfl⟩).symm
  |true=>
    refine aE rfl (c a _ _ ⟨rfl,aD k (by omega),?_⟩);intro z f;rw[QO a] at f;rcases QQ.1 f with q|q
    ·exact j z q
    ·simp at q;subst q;exact hs
 ·have m:k=l.length:=by rw[g] at e;simp at e;omega
  rw[m,QS (QN _)] at j;refine o _ ?_;have:(l.any λz=>!z.1.pins.isEmpty)=false:=by
   rw[VZ];intro z f;rw[j z f];simp
  rw[this];rfl
theorem sL {H:aa}{s:Sl}{l:List FZ}{K:Bool->aa->Prop}(h:aF dW uO H s (l.map λz=>z.2.p))(a:∀z∈l,dK H z.2 z.1)(hl:l.length<=1048576)
  (c:K (l.any λz=>!z.1.pins.isEmpty) H):Mc.sp s H K:=by
 refine Mc.of ?_;unfold Mc.vc;exact xz h a hl λr e=>by rw[e];exact c
theorem erase_filter:∀{l:List FZ} {i:Nat} {a:FZ},(∀(i j:Nat) (z z':FZ),l[i]?=some z->l[j]?=some z'->z.2.p=z'.2.p->i=j)->l[i]?=some a->l.eraseIdx i=l.filter λz=>!(z.2.p==a.2.p)
 |[],i,a,_,h=>by simp at h
 |b::l,0,a,hu,h=>by
   simp at h;subst h;rw[List.eraseIdx_cons_zero,S0,if_neg (by simp)];refine(Su.2 λz f=>?_).symm;obtain⟨j,g⟩:=QU.1 f;have:z.2.p≠b.2.p:=λe=>by have:=hu (j+1) 0 z b (by simpa using g) rfl e;omega
   simpa using this
 |b::l,i+1,a,hu,h=>by
   simp only[RV] at h;have c:b.2.p≠a.2.p:=λe=>by have:=hu 0 (i+1) b a rfl (by simpa using h) e;omega
   rw[WA,S0,if_pos (by simpa using c)];rw[erase_filter (λi j z z' h1 m e=>by have:=hu (i+1) (j+1) z z' (by simpa using h1) (by simpa using m) e;omega) h]
def jD (zs w:List FZ):List FZ:=zs.filter λz=>!(w.any λu=>u.2.p==z.2.p)
theorem Bt (zs w:List FZ)(a:FZ):jD zs (w++[a])=(jD zs w).filter λz=>!(z.2.p==a.2.p):=by
 unfold jD;rw[List.filter_filter];refine Sx λz _=>?_;rw[List.any_append,List.any_cons,List.any_nil,Bool.or_false,Bool.not_or,Bool.and_comm];congr 2;exact Bool.beq_comm
theorem I6 {F:Nat->Prop}{H:aa}{p dp:Nat}{s:Pl}{n:ByteArray}{K:Int->aa->Prop}(hg:Gl H)(h:aA F H p dp s)
  (B:∀F' H',aA F' H' p dp (s.c9 n).1->Step F F' H H'->K (s.c9 n).2 H'):Lh.sp (aK p) n H K:=by
 have a6:=h;obtain⟨x,D,hd,hF⟩:=h;refine Lh.of ?_;unfold Lh.vc;simp only[aw];refine jf hd.aj ?_;unfold Pl.c9 at B;refine ah (λhw=>?_) (λhw=>?_)
 ·have M:s.wrong≠0:=by simpa using hw
  rw[if_pos M] at B;exact B F H a6 (.refl _ _)
 have M:¬s.wrong≠0:=by simpa using hw
 rw[if_neg M] at B;refine hd.aj.head.ld (c:=aB) (i:=0) (x:=aK dp) rfl ?_;refine uU hd.cD ?_;have fin:∀(e:Int) (x':PG) (D':Nat->Prop) (H1:aa) (t:Pl),bQ x' D' H1 p dp t->Step (λb=>D b\/x.all p b) (λb=>D' b\/x'.all p b) H H1->(∀F' H',aA F' H' p dp (Pl.out (t,e)).1->Step F F' H H'->K (Pl.out (t,e)).2 H')->
   wJ.sp (aK p) e H1 λr S=>K r S:=by
  intro e x' D' H1 t h1 S1 hk;refine w9 (hd.gl hg S1.mod) h1 λS U V=>?_;obtain⟨F',C,E⟩:=U.out (x:=x) (D:=D) (F:=F) (H:=H) hF (S1.trans V);exact hk F' S C E
 refine ah (λm=>?_) (λm=>?_)
 ·have O:(s.d.len n).2≠0:=by simpa using m
  rw[if_pos O] at B;exact fin _ x D H s hd (.refl _ _) B
 have O:¬(s.d.len n).2≠0:=by simpa using m
 rw[if_neg O] at B;refine Lq hd.aj λsl H1 o1 e1 f1=>?_;have I:=hd.ext e1;have o:=o1.n (by decide);rw[Rg] at o;have bd:(x.of n).length<=4096:=by
  have h1:=PG.Af hd.aj.fs n;have U:=s.iV n;rw[<-h1,Rg] at U;have:=hd.aj.wf.len;have:=hd.aj.wf.most;omega
 have G:((x.of n).any λz=>!z.1.pins.isEmpty)=s.fs.any (λf=>f.name.toList==n.toList&&!f.pins.isEmpty):=by
  rw[Wu,S9,S9];constructor
  ·rintro⟨z,m,e⟩;obtain⟨C,E⟩:=PG.fJ.1 m;refine⟨z.1,by rw[hd.aj.fs];exact QW.2 ⟨z,C,rfl⟩,?_⟩;rw[E,e];simp
  ·rintro⟨f,hf,e⟩;rw[hd.aj.fs] at hf;obtain⟨z,m,rfl⟩:=QW.1 hf;simp only[QY] at e;exact⟨z,PG.fJ.2 ⟨m,ig (by simpa using e.1)⟩,e.2⟩
 refine sL o1 (λz m=>I.aj.ag.each z (PG.fJ.1 m).1) (by omega) ?_;rw[G];cases X:s.fs.any (λf=>f.name.toList==n.toList&&!f.pins.isEmpty) with
 |true=>
   rw[X,if_pos rfl] at B;obtain⟨F',C,E⟩:=I.out (x:=x) (D:=D) (F:=F) (H:=H) hF (Step.ext e1);exact aR rfl (B F' H1 C E)
 |false=>
   rw[X,if_neg (by simp)] at B;refine aE rfl ?_;have Q:∀z∈x.of n,z.1.pins=[]:=by
    intro z m;rw[X] at G;have:=(VZ.1 G) z m;simpa using this
   refine av (x.of n).length (λk z A=>z=(k:Int)/\∃y,bQ y D A p dp {s with fs:=(jD x.zs ((x.of n).take k)).map (·.1)}/\y.zs=jD x.zs ((x.of n).take k)/\Step (λb=>D b\/x.all p b) (λb=>D b\/y.all p b) H1 A/\aF dW uO A sl ((x.of n).map λz=>z.2.p)) ⟨rfl,x,?_,?_,.refl _ _,o1⟩ ?_
   ·have e:(jD x.zs ((x.of n).take 0)).map (·.1)=s.fs:=by
     rw[hd.aj.fs];unfold jD PG.fs;rw[Su.2 (λ_ _=>by simp)]
    rw[e];exact I
   ·unfold jD;rw[Su.2 (λ_ _=>by simp)]
   rintro k _ A next hk ⟨rfl,y,g,hy,SA,oA⟩ R
   have Y:Gl A:=I.gl (hg.mod e1 id) SA.mod;refine ah (λZ=>?_) (λZ=>?_)
   ·have J:k<(x.of n).length:=by rw[o] at Z;simpa using Z
    have af:(x.of n)[k]∈x.of n:=Re J;obtain⟨al,bh⟩:=PG.fJ.1 af;have an:(x.of n)[k]∈y.zs:=by
     rw[hy];unfold jD;rw[Rp];refine⟨al,?_⟩;rw[Bool.not_eq_true',VZ];intro u hu e;obtain⟨j,hj,rfl⟩:=Sb hu;simp only[Ro] at hj;simp only[List.getElem_take,beq_iff_eq] at e;have a7:(x.of n)[j]∈x.of n:=Re (by omega);have e2:=hd.aj.ag.ptr (PG.fJ.1 a7).1 al e;have a8:(x.of n).Nodup:=by
      have m:x.zs.Nodup:=by
       have:=hd.aj.wf.keys;rw[hd.aj.fs] at this;unfold PG.fs at this;rw[R8] at this;exact kV _ this
      unfold PG.of;exact(RG _ _).symm.nodup (m.filter _)
     have:=(List.getElem_inj a8).1 e2;omega
    obtain⟨i,hi⟩:=QU.1 an;refine tq oA (i:=k) (q:=(x.of n)[k].2.p) (by simp[J]) rfl λad ha=>?_;refine g.aj.head.ld (c:=cd) (i:=2) (x:=some y.mf) rfl ?_;simp only[aw];refine dK.C5 (g.aj.ag.each _ an) ?_;refine Bb Y g hi (Q _ af) λbl v A2 U V m2=>?_;have e2:y.zs.eraseIdx i=jD x.zs ((x.of n).take (k+1)):=by
     rw[QO J,Bt,<-hy];refine erase_filter (λa c z z' C E e=>?_) hi;by_cases a1:a=c
     ·exact a1
     ·exact absurd (.inl e) (g.aj.ag.apart a c z z' C E a1 z.2.p (.inl rfl))
    refine R J _ _ ⟨aD k (by omega),_,?_,e2,SA.trans V,?_⟩
    ·have e3:(Pl.drop {s with fs:=(jD x.zs ((x.of n).take k)).map (·.1)} i)={s with fs:=(jD x.zs ((x.of n).take (k+1))).map (·.1)}:=by
      unfold Pl.drop;simp only;rw[<-nu,<-e2,hy]
     rw[<-e3];exact U
    ·refine oA.ar λb X hl=>m2.same b hl ?_;intro e;obtain⟨c,q⟩:=oA.obj b X;rw[e,g.aj.ag.fmap.obj] at q;cases q
   ·have bb:k=(x.of n).length:=by rw[o] at Z;simp at Z;omega
    have e4:({s with fs:=(jD x.zs ((x.of n).take k)).map (·.1)}:Pl)=s.forget n:=by
     unfold Pl.forget;rw[bb,QS (QN _),hd.aj.fs];unfold jD PG.fs;rw[Xa];congr 2;refine Sx λz m=>?_;show (!_)=!(z.1.name.toList==n.toList);congr 1;rw[Wu,S9,beq_iff_eq];constructor
     ·rintro⟨u,hu,e⟩;obtain⟨C,E⟩:=PG.fJ.1 hu;have:=hd.aj.ag.ptr C m (by simpa using e);rw[<-this,E]
     ·intro e;exact⟨z,PG.fJ.2 ⟨m,ig e⟩,by simp⟩
    rw[e4] at g;refine g.aj.head.ld (c:=aB) (i:=0) (x:=aK dp) rfl ?_;refine E8 g.cD λD2 S a2 V=>?_;obtain⟨C,E⟩:=g.ks Y a2 V;exact fin _ y D2 S _ C ((SA.trans E).ahead e1) B
end
def v0 (j:Nat)(l:List Int):Prop:=l=[(j:Int)+1]
def vA (j:Nat)(l:List Int):Prop:=(j=2/\l=[])\/(j≠2/\l=[(j:Int)+1])
def vB (j:Nat)(l:List Int):Prop:=j≠2/\l=[(j:Int)+1]
theorem pQ {i n:Int}{H:aa}{K:Int->aa->Prop}(m:n<=9223372036854775807)
  (f:K (if n<1 then 0 else i.emod n) H):Hs.sp i n H K:=by
 refine Hs.of ?_;unfold Hs.vc;refine ah (λh=>?_) (λh=>?_)
 ·have:n<1:=by simpa using h
  simpa[this] using f
 ·have o:1<=n:=by simpa using h
  refine⟨by omega,?_⟩;rw[if_neg (by omega)] at f;refine ah (λh=>?_) (λh=>?_)
  ·have a:i.tmod n<0:=by simpa using h
   have e:i.emod n=i.tmod n+n:=by
    rw[XY] at a ⊢;split at a
    ·have:=Xc i (show n≠0 by omega);omega
    ·rename_i g;rw[if_neg g];have:(n.natAbs:Int)=n:=by omega
     have u:i%n=i.emod n:=rfl;omega
   have j:-n<i.tmod n:=by
    rw[XY];have:=Xc i (show n≠0 by omega);split<;>omega
   rw[wrap64 (by omega) (by omega),<-e];exact f
  ·have c:0<=i.tmod n:=by simpa using h
   have e:i.emod n=i.tmod n:=by
    rw[XY] at c ⊢;split
    ·simp;rfl
    ·rename_i g;rw[if_neg g] at c;have:=Int.emod_lt_of_pos i (show 0<n by omega);have:(n.natAbs:Int)=n:=by omega
     omega
   rw[<-e];exact f
section
open Go.MapKept
variable {H A:aa}{p dp:Nat}{s:Pl}{n:ByteArray}
end
section
open Go.MapKept
end
section
open Go.MapKept
theorem sV:(zc QH sX).size=6:=by kernel_rfl
theorem nP:nk QH sX 6=true:=by kernel_rfl
def EK (pp:Option hY)(n:ByteArray)(w:Int):Array gp:=#[.pointer pp,.string n,.int .i64 w,.int .i64 (aL w),.int .i64 0,.bool false]
theorem pO (pp:Option hY)(n:ByteArray)(w:Int):∀v∈(EK pp n w).toList,v.oneCell'=true:=by
 intro v a;simp[EK] at a;rcases a with rfl|rfl|rfl|rfl|rfl|rfl<;>rfl
theorem wm {pp:Option hY}{n:ByteArray}{w:Int}{H:aa}{K:((Option hY×ByteArray×Int×Int×Int×Bool)×Int)->aa->Prop}
  {e:Int} (he:(if pp.isNone=true then 1 else if aL w=0 then 60 else 0)=e) (a:∀H',Ext H H'->K ((pp,n,w,aL w,0,false),e) H'):Ji.sp pp n w H K:=by
 subst he;refine Ji.of ?_;unfold Ji.vc;refine au λH1 G z B=>?_;refine oZ ?_;refine au λI z2 r2 u=>?_;refine ao.iE (cs:=EK pp n w) r2 nP sV (pO _ _ _) λg v m3 z3=>?_;have j:Ext H g:=⟨by have:=m3.size;omega,λb m _=>(m3.same b (by omega) (by intro q;have:b=H1.size:=q;omega)).trans ((u.same b (by omega) id).trans (B.same b m id))⟩;have o:ao g H.size sX (zc QH sX):=(z.ext u).mod m3 (by intro q;have:H.size=H1.size:=q;omega);have fin:∀e:Int,(∀H',Ext H H'->K ((pp,n,w,aL w,0,false),e) H')->cN (bR [aB,aN,(ab .i64),(ab .i64),(ab .i64),aC]) 6 g ⟨H1.size,0,none⟩ λ(x:(Option hY×ByteArray×Int×Int×Int×Bool))=>jo QH (Q3 sX (.pointer (some ⟨H.size,0,none⟩)) (.agg #[.pointer x.1,.string x.2.1,.int .i64 x.2.2.1,.int .i64 x.2.2.2.1,.int .i64 x.2.2.2.2.1,.bool x.2.2.2.2.2])) g λy=>cN (bR [aB,aN,(ab .i64),(ab .i64),(ab .i64),aC]) 6 y ⟨H.size,0,none⟩ λ(res:(Option hY×ByteArray×Int×Int×Int×Bool))=>K ((res.1,res.2.1,res.2.2.1,res.2.2.2.1,res.2.2.2.2.1,res.2.2.2.2.2),e) y:=by
  intro e hk;refine ao.cN (x:=(pp,n,w,aL w,0,false)) v rfl rfl ?_;refine ao.iE (cs:=EK pp n w) o nP sV (pO _ _ _) λC D m4 z4=>?_;refine ao.cN (x:=(pp,n,w,aL w,0,false)) D rfl rfl ?_;exact hk C ⟨by have:=m4.size;have:=j.size;omega,λb m _=>(m4.same b (by have:=j.size;omega) (by intro q;have:b=H.size:=q;omega)).trans (j.same b m id)⟩
 refine⟨λ_ A=>A=g/\pp.isNone=false/\¬aL w=0,?_,?_⟩
 ·refine ah (λh=>?_) (λh=>?_)
  ·rw[if_pos h] at a;exact fin 1 a
  ·rw[if_neg (by rw[h];simp)] at a;refine ao.ld (c:=ab .i64) (i:=3) (x:=aL w) v rfl ?_;refine ah (λf=>?_) (λf=>?_)
   ·rw[if_pos (by simpa using f)] at a;exact fin 60 a
   ·exact⟨rfl,h,by simpa using f⟩
 ·rintro _ A ⟨rfl,h1,E⟩;rw[if_neg (by rw[h1];simp),if_neg E] at a;exact fin 0 a
def aY:Sl:=Sl.mk none 0 0
theorem aU (b:Nat):¬ai aY b:=by rintro⟨ad,q,_⟩;cases q
variable {F:Nat->Prop}{H:aa}{p dp:Nat}{s:Pl}{n:ByteArray}{W:Int}{K:(Option hY×Int)->aa->Prop}
theorem yr (hg:Gl H)(S:aA F H p dp s)(hn:n.size<=9223372036854775807)(G:s.d.aH<68719470000)(af:s.next<1099511627776)(h0:0<=s.next)(j:s.Fit)
  (a:∀F' H',aA F' H' p dp (bo s n W).1->Step F F' H H'->(bo s n W).2.1=none->K (none,(bo s n W).2.2) H')
  (c:∀F' H' k w,aA F' H' p dp (bo s n W).1->Step F F' H H'->(bo s n W).2.1=some w->qw H' k p w aY aY->H.size<=k->¬F' k->K (aK k,(bo s n W).2.2) H'):ID.sp (aK p) n W H K:=by
 refine ID.of ?_;unfold ID.vc;refine wm (e:=if aL W=0 then 60 else 0) (if_neg (by unfold aK;simp)) λH1 h=>?_;refine au λH2 z2 r2 e2=>?_;refine ao.iE (cs:=EK (aK p) n W) r2 nP sV (pO _ _ _) λm r3 m3 z3=>?_;have I:Ext H m:=⟨by have:=m3.size;have:=h.size;omega,λb hb _=>(m3.same b (by have:=h.size;omega) (by intro q;have:b=H1.size:=q;have:=h.size;omega)).trans ((e2.same b (by have:=h.size;omega) id).trans (h.same b hb id))⟩;have p3:=S.ext I;have g3:Gl m:=hg.mod I id;have U:Step F F H m:=⟨I.mod,λb q=>.inl q⟩;have al:=h.size;have hk:¬F H1.size:=λq=>by have:=S.lt _ q;omega
 by_cases B:aL W=0
 ·simp only[if_pos B];have em:bo s n W=(s,none,60):=if_pos B;rw[em] at a;refine aE rfl ?_;refine⟨λe A=>e=60/\A=m,aE rfl ⟨rfl,rfl⟩,?_⟩;rintro _ A ⟨rfl,rfl⟩;exact aR rfl (a F A p3 U rfl)
 simp only[if_neg B];refine aR rfl ?_;refine yL p3 ?_;obtain⟨D,d1,_,d3⟩:=aA.cD g3 p3;refine E3 d1 λD' J d4 S4=>?_;obtain⟨V,p4,C⟩:=d3 D' J _ d4 S4;have em:bo s n W=if (s.d.create n).2≠0 then (s.bJ (s.d.create n).1,none,(s.d.create n).2)
   else if ((s.bJ (s.d.create n).1).more n 0 []).2≠0 then (((s.bJ (s.d.create n).1).more n 0 []).1,none,((s.bJ (s.d.create n).1).more n 0 []).2)
   else (((s.bJ (s.d.create n).1).more n 0 []).1,some (xD n W),0):=by unfold bo;rw[if_neg B]
 have M:(s.bJ (s.d.create n).1).d.aH<68719470000:=by have:=s.d.mN n;show (s.d.create n).1.aH<_;omega
 have O:(s.bJ (s.d.create n).1).Fit:=j.bJ (s.d.kL n);have an:(s.bJ (s.d.create n).1).next=s.next:=rfl
 generalize s.bJ (s.d.create n).1=Y at*;generalize (s.d.create n).2=o at*;have u:¬V H1.size:=λq=>by
  rcases C.own _ q with r|r
  ·exact hk r
  ·omega
 have Q:bK J H1.size sX p ⟨n,W,0,false⟩ []:=(show bK m H1.size sX p ⟨n,W,0,false⟩ [] from r3).mod C.mod hk;have v:=U.trans C;have g4:Gl J:=g3.mod C.mod p3.fi;obtain⟨X,y⟩:∃X:Pl×Int,X=if o≠0 then (Y,o) else Y.more n 0 []:=⟨_,rfl⟩
 have R:bo s n W=if X.2≠0 then (X.1,none,X.2) else (X.1,some (xD n W),0):=by
  rw[em,y];by_cases q:o≠0
  ·rw[if_pos q,if_pos q,if_pos q]
  ·rw[if_neg q,if_neg q]
 refine⟨λe A=>e=X.2/\∃F',aA F' A p dp X.1/\Step F F' H A/\bK A H1.size sX p ⟨n,W,0,false⟩ [],?_,?_⟩
 ·refine ah (λf=>?_) (λf=>?_)
  ·have q:¬o≠0:=by simpa using f
   rw[if_neg q] at y;refine Dv (kd:=0) (sl:=Sl.mk none 0 0) (l:=[]) g4 Q p4 u ⟨rfl,Reads.nil _ _⟩ (by intro ad q;cases q) hn M (by omega) (by omega) O λE H5 z g=>?_;rw[y];exact⟨rfl,E,z,v.trans g,Q.mod g.mod u⟩
  ·have q:o≠0:=by simpa using f
   rw[if_pos q] at y;rw[y];exact⟨rfl,V,p4,v,Q⟩
 rintro _ A ⟨rfl,E,z,g,b5⟩;rw[R] at a c;refine ah (λf=>?_) (λf=>?_)
 ·have q:X.2≠0:=by simpa using f
  rw[if_pos q] at a;exact a E A z g rfl
 ·have q:¬X.2≠0:=by simpa using f
  rw[if_neg q] at c;refine ao.cN (x:=(aK p,n,W,aL W,0,false)) b5 rfl rfl ?_;refine au λH6 z6 r6 Z=>?_;have:=g.mod.size;refine c E H6 A.size (xD n W) (z.ext Z) ⟨g.mod.trans' Z λb _ q=>q.elim,g.own⟩ rfl ⟨r6,aF.nil _ _ _,aO.nil _ _ _ _⟩ (by omega) λq=>by have:=z.lt _ q;omega
end
section
open Go.MapKept
def lF:Option Nat->Int
 |none=>-1
 |some k=>(k:Int)
structure AM (H:aa)(k p:Nat)(r:RR)(si:Sl)(rs:List Sl):Prop where
 row:bK H k OI p r.b [.int .i64 (r.rows:Int),.int .i64 (r.at_:Int),.int .i64 (lF r.page),si.v]
 ins:aJ H 0 si rs r.ins
def oI (k:Nat)(si:Sl)(rs:List Sl)(b:Nat):Prop:=b=k\/ai si b\/∃x∈rs,ai x b
section
variable {H:aa}{k p:Nat}{r:RR}{si:Sl}{rs:List Sl}
theorem AM.lt (h:AM H k p r si rs):∀b,oI k si rs b->b<H.size:=by
 rintro b (rfl|q|⟨x,a,q⟩)
 ·exact aI h.row
 ·exact(h.ins.block.1 b q).2
 ·exact(h.ins.block.2 x a b q).2
theorem AM.mod {G:Nat->Prop}{H':aa}(h:AM H k p r si rs)(m:Mod G H H')(a:∀b,oI k si rs b->¬G b):AM H' k p r si rs:=
 ⟨h.row.mod m (a k (.inl rfl)),h.ins.mod m (λb c=>a b (.inr (.inl c))) λx e b c=>a b (.inr (.inr ⟨x,e,c⟩))⟩
theorem AM.EG (h:AM H k p r si rs):¬ai si k:=λq=>by
 obtain⟨cur,a⟩:=h.ins.out.obj k q;exact absurd (aM a h.row) (by decide)
theorem AM.jS (h:AM H k p r si rs):∀x∈rs,¬ai x k:=λx a q=>by
 obtain⟨l,hl⟩:=h.ins.rowAt a;obtain⟨cur,c⟩:=hl.obj k q;exact absurd (aM c h.row) (by decide)
end
structure jr (H0:aa)(F0 O0:Nat->Prop)(k p dp:Nat)(si:Sl)(rs:List Sl)(F:Nat->Prop)(A:aa)(s:Pl)(r:RR):Prop where
 aj:aA F A p dp s
 rd:AM A k p r si rs
 dis:∀b,F b->¬oI k si rs b
 mod:Mod (λb=>F0 b\/b=k) H0 A
 own:∀b,F b->F0 b\/H0.size<=b
 own2:∀b,oI k si rs b->O0 b\/H0.size<=b
section
variable {H0:aa}{F0 O0:Nat->Prop}{k p dp:Nat}{si:Sl}{rs:List Sl}{F:Nat->Prop}{A:aa}{s:Pl}{r:RR}
theorem jr.step {F':Nat->Prop}{c:aa}{s':Pl}(h:jr H0 F0 O0 k p dp si rs F A s r)(e:aA F' c p dp s')(S:Step F F' A c):jr H0 F0 O0 k p dp si rs F' c s' r:=by
 refine⟨e,h.rd.mod S.mod λb a q=>h.dis b q a,λb a q=>?_,h.mod.trans' S.mod λb a q=>?_,λb a=>?_,h.own2⟩
 ·rcases S.own b a with r|r
  ·exact h.dis b r q
  ·have:=h.rd.lt b q;omega
 ·rcases h.own b q with r|r
  ·exact .inl r
  ·omega
 ·rcases S.own b a with r|r
  ·exact h.own b r
  ·right;have:=h.mod.size;omega
theorem jr.ext {a:aa}(h:jr H0 F0 O0 k p dp si rs F A s r)(e:Ext A a):jr H0 F0 O0 k p dp si rs F a s r:=h.step (h.aj.ext e) ⟨e.mod,λ_ q=>.inl q⟩
theorem jr.gl (h:jr H0 F0 O0 k p dp si rs F A s r)(a:Gl H0)(h1:¬F0 bt)(c:bt≠k):Gl A:=a.ar (h.mod.same _ a.lt λq=>q.elim h1 c)
theorem jr.dz {f:aa}{r':RR}{a:Sl}{c:List Sl}(h:jr H0 F0 O0 k p dp si rs F A s r)(m:Mod (λb=>b=k) A f)(g:AM f k p r' a c)(hs:∀b,oI k a c b->oI k si rs b\/(H0.size<=b/\¬F b)):jr H0 F0 O0 k p dp a c F f s r':=by
 refine⟨h.aj.ar λb e hl=>m.same b hl λq=>h.dis b e (.inl q),g,λb e q=>?_,h.mod.trans' m λb _ q=>.inr q,h.own,λb q=>?_⟩
 ·rcases hs b q with u|u
  ·exact h.dis b e u
  ·exact u.2 e
 ·rcases hs b q with u|u
  ·exact h.own2 b u
  ·exact .inr u.1
theorem jr.cE {e:Int}{K:Int->aa->Prop}(h:jr H0 F0 O0 k p dp si rs F A s r)(g:∀a,jr H0 F0 O0 k p dp si rs F a s {r with b:=r.b.cE e}->A.size<=a.size->K e a):C8.sp (aK k) e A K:=by
 refine qY h.rd.row λa r' f z'=>g a (h.dz f ⟨r',h.rd.ins.mod f (λb c q=>h.rd.EG (q▸c)) λx j b c q=>h.rd.jS x j (q▸c)⟩ λb q=>.inl q) (W7 z'.symm)
theorem DD {b:List Int}{w:Int}:∀l∈jK b w,l.length<=16:=by
 unfold jK;split
 ·rename_i h;unfold eU at h;simp only[QY,decide_eq_true_eq] at h;have hw:w<=16:=by
   have h1:=h.1.1;unfold bI at h1;split at h1
   ·exact absurd rfl h1
   ·omega
  intro l hl;obtain⟨k,_,rfl⟩:=QW.1 hl;rw[gv];omega
 ·simp
structure RR.Ok (r:RR):Prop where
 room:0<r.b.room
 at_:r.at_<=r.rows
 page:∀j,r.page=some j->r.ins.length=min r.b.room (r.rows - j*r.b.room)
 rows:r.rows<=528482304
 cols:∀l∈r.ins,l.length<=16
theorem de (b:Rb):aL b.width=(b.room:Int)/\b.room<=504:=by
 unfold Rb.room;have h:=fS b.width;have a:0<=aL b.width/\aL b.width<=504:=by
  unfold aL;split
  ·omega
  ·refine⟨Zr (by omega) (by omega),Zd _ (by omega)⟩
 omega
theorem Rb.lE (b:Rb)(e:Int):(b.cE e).room=b.room/\(b.cE e).width=b.width/\(b.cE e).name=b.name:=by
 unfold Rb.cE;split<;>exact⟨rfl,rfl,rfl⟩
theorem RR.qb {j:Nat}(h:r.Ok):(r.load s j).2.1.Ok/\(r.load s j).2.1.rows=r.rows/\(r.load s j).2.1.at_=r.at_/\(r.load s j).2.1.b.width=r.b.width/\(r.load s j).2.1.b.name=r.b.name/\((r.load s j).2.2=0->(r.load s j).2.1.b=r.b/\(r.load s j).2.1.page=some j):=by
 unfold RR.load;split
 ·rename_i g;exact⟨h,rfl,rfl,rfl,rfl,λ_=>⟨rfl,g⟩⟩
 ·split
  ·rename_i _ he;obtain⟨a,c,e⟩:=r.b.lE (s.look r.b.name ((j:Int)+1)).2.2.2;exact⟨⟨by simp only[a];exact h.room,h.at_,by simp only[a];exact h.page,h.rows,h.cols⟩,rfl,rfl,c,e,λq=>absurd q he⟩
  ·split
   ·rename_i f;refine⟨⟨h.room,h.at_,λi hi=>?_,h.rows,DD⟩,rfl,rfl,rfl,rfl,λ_=>⟨rfl,rfl⟩⟩;simp only at hi;cases hi;unfold RR.fits at f;simp only[QY,decide_eq_true_eq] at f;exact f.2
   ·obtain⟨a,c,e⟩:=r.b.lE 280;exact⟨⟨by simp only[a];exact h.room,h.at_,by simp only[a];exact h.page,h.rows,h.cols⟩,rfl,rfl,c,e,λq=>by simp at q⟩
set_option maxHeartbeats 1000000 in
theorem Ii {j:Nat}{K:Int->aa->Prop}(hg:Gl H0)(U:¬F0 bt)(V:bt≠k)(h:jr H0 F0 O0 k p dp si rs F A s r)(ok:r.Ok)(hj:j*r.b.room<=r.rows)(bb:j<1099511627776)
  (hn:r.b.name.size<=9223372036854775807) (v:s.d.aH<68719470000) (X:s.next<1099511627776) (h0:0<=s.next)
  (f:∀F' Y Z A',jr H0 F0 O0 k p dp Y Z F' A' (r.load s j).1 (r.load s j).2.1->A.size<=A'.size->K (r.load s j).2.2 A'):Ld.sp (aK k) (j:Int) A K:=by
 refine Ld.of ?_;unfold Ld.vc;unfold aK;simp only[aw];obtain⟨D,bd⟩:=de r.b;unfold RR.load at f;refine ao.ld (c:=ab .i64) (i:=8) (x:=lF r.page) h.rd.row (bK.tail (j:=2) rfl) ?_;by_cases O:r.page=some j
 ·rw[if_pos O] at f;refine aR (by rw[O];simp[lF]) ?_;exact f F si rs A h (QN _)
 rw[if_neg O] at f;refine aE ?_ ?_
 ·cases e:r.page with
  |none=>simp only[lF,beq_eq_false_iff_ne,ne_eq];omega
  |some i=>
    have:i≠j:=λq=>O (by rw[e,q]);simp only[lF,beq_eq_false_iff_ne,ne_eq];omega
 rw[aD j (by omega)];refine Ad (h.gl hg U V) h.rd.row h.aj (λq=>h.dis k q (.inl rfl)) (by omega) hn v X h0 λQ A1 sl p1 E o1 f1 af=>?_;have e1:((j+1:Nat):Int)=(j:Int)+1:=by omega
 rw[e1] at p1 o1 af ⊢;have G:=h.step p1 E;generalize (s.look r.b.name ((j:Int)+1)).1=s1 at*;generalize (s.look r.b.name ((j:Int)+1)).2.1=kd at*;generalize (s.look r.b.name ((j:Int)+1)).2.2.1=b at*;generalize (s.look r.b.name ((j:Int)+1)).2.2.2=e at*;refine ah (λa=>?_) (λa=>?_)
 ·have e0:e≠0:=by simpa using a
  rw[if_pos e0] at f;exact G.cE λA2 m z2=>f Q si rs A2 m (QZ E.mod.size z2)
 have e0:¬e≠0:=by simpa using a
 rw[if_neg e0] at f;refine ao.ld (c:=ab .i64) (i:=2) (x:=r.b.width) G.rd.row (bK.get 2 _ rfl) ?_;refine wL (b:=eV b) (cg o1) o1.cap (λx B=>?_) (by rw[lq];omega) λC y A2 ro R=>?_
 ·unfold eV at B;obtain⟨c,_,rfl⟩:=QW.1 B;have:=c.toNat_lt;omega
 have m:=G.ext R;have g:r.fits j kd b=true↔(kd=1/\qR (eV b) r.b.width=0/\(jK (eV b) r.b.width).length=min r.b.room (r.rows - j*r.b.room)):=by
  unfold RR.fits qR;simp only[QY,beq_iff_eq,decide_eq_true_eq];cases eU (eV b) r.b.width<;>simp
 refine ah (λa=>?_) (λa=>?_)
 ·have z:¬r.fits j kd b=true:=λq=>by
   obtain⟨q1,q2,_⟩:=g.1 q;rw[q2,q1] at a;simp at a
  rw[if_neg z] at f;exact m.cE λS B3 z3=>f Q si rs S B3 (by have:=E.mod.size;have:=R.size;omega)
 have I:kd=1/\qR (eV b) r.b.width=0:=by
  simp only[Sp,bne_eq_false_iff_eq] at a;refine⟨?_,a.2⟩;have:kd.toNat=1:=by omega
  exact Tp.1 this
 refine ao.ld (c:=ab .i64) (i:=3) (x:=aL r.b.width) m.rd.row (bK.get 3 _ rfl) ?_;refine ao.ld (c:=ab .i64) (i:=6) (x:=(r.rows:Int)) m.rd.row (bK.tail (j:=0) rfl) ?_;refine ao.ld (c:=ab .i64) (i:=3) (x:=aL r.b.width) m.rd.row (bK.get 3 _ rfl) ?_;have al:(j:Int)*(r.b.room:Int)=((j*r.b.room:Nat):Int):=by simp
 have an:QI.wrap ((j:Int)*aL r.b.width)=((j*r.b.room:Nat):Int):=by
  rw[D,al];have:=ok.rows;exact wrap64 (by omega) (by omega)
 have a1:QI.wrap ((r.rows:Int) - ((j*r.b.room:Nat):Int))=((r.rows - j*r.b.room:Nat):Int):=by
  have:=ok.rows;rw[wrap64 (by omega) (by omega)];omega
 rw[an,a1,D,ro.n];have J:(if ((r.rows - j*r.b.room:Nat):Int)<(r.b.room:Int) then ((r.rows - j*r.b.room:Nat):Int) else (r.b.room:Int))=((min r.b.room (r.rows - j*r.b.room):Nat):Int):=by
  split<;>omega
 rw[J];refine ah (λa=>?_) (λa=>?_)
 ·have z:¬r.fits j kd b=true:=λq=>by
   obtain⟨_,_,q3⟩:=g.1 q;rw[q3] at a;simp at a
  rw[if_neg z] at f;exact m.cE λS B3 z3=>f Q si rs S B3 (by have:=E.mod.size;have:=R.size;omega)
 have a6:((jK (eV b) r.b.width).length:Int)=((min r.b.room (r.rows - j*r.b.room):Nat):Int):=by simpa only[bne_eq_false_iff_eq] using a
 have hf:r.fits j kd b=true:=g.2 ⟨I.1,I.2,Int.ofNat.inj a6⟩;rw[if_pos hf] at f;refine ao.st m.rd.row (i:=8) (by simp[b8]) rfl λS r3 m3 z3=>?_;refine ao.st r3 (i:=9) (by simp[b8]) rfl λA4 r4 m4 z4=>?_;have m24:=m3.trans m4;have a7:bK A4 k OI p r.b [.int .i64 (r.rows:Int),.int .i64 (r.at_:Int),.int .i64 (lF (some j)),C.v]:=by
  have e:((b8 p r.b++[.int .i64 (r.rows:Int),.int .i64 (r.at_:Int),.int .i64 (lF r.page),si.v]).toArray.setIfInBounds 8 (.int .i64 (j:Int))).setIfInBounds 9 C.v=(b8 p r.b++[.int .i64 (r.rows:Int),.int .i64 (r.at_:Int),.int .i64 (lF (some j)),C.v]).toArray:=by
   simp[b8,lF]
  rw[e] at r4;exact r4
 have o:=ro.block;have bh:k<A1.size:=aI G.rd.row;have bl:=G.mod.size;have a8:aJ A2 0 C y (jK (eV b) r.b.width):=⟨ro.out.yD,ro.len,λi x l h1 h2=>(ro.row i x l h1 h2).yD,ro.apart⟩;have rn:AM A4 k p {r with page:=some j,ins:=jK (eV b) r.b.width} C y:=
  ⟨a7,a8.mod m24 (λb M q=>by have:=(o.1 b M).1;omega) λx B b M q=>by have:=(o.2 x B b M).1;omega⟩
 refine f Q C y A4 (m.dz m24 rn λb M=>?_) (by have:=E.mod.size;have:=R.size;have:=m24.size;omega);rcases M with q|q|⟨x,B,q⟩
 ·exact .inl (.inl q)
 ·have:=(o.1 b q).1;exact .inr ⟨by omega,λu=>by have:=p1.lt b u;omega⟩
 ·have:=(o.2 x B b q).1;exact .inr ⟨by omega,λu=>by have:=p1.lt b u;omega⟩
theorem Ef {K:(Sl×Bool×Int)->aa->Prop}(hg:Gl H0)(M:¬F0 bt)(O:bt≠k)(h:jr H0 F0 O0 k p dp si rs F A s r)(ok:r.Ok)
  (hn:r.b.name.size<=9223372036854775807) (z:s.d.aH<68719470000) (Q:s.next<1099511627776) (h0:0<=s.next)
  (m:∀F' E G R l,jr H0 F0 O0 k p dp E G F' R (r.next s).1 (r.next s).2.1->aO R 0 fM 1 l ((r.next s).2.2.1.map (QT .u64))->(∀b,ai l b->A.size<=b/\¬F' b/\¬oI k E G b)->((r.next s).2.2.2.1=false->l=Sl.mk none 0 0)->K (l,(r.next s).2.2.2.1,(r.next s).2.2.2.2) R):Fm.sp (aK k) A K:=by
 refine Fm.of ?_;unfold Fm.vc;unfold aK;refine aE rfl ?_;simp only[aw];obtain⟨I,an⟩:=de r.b;unfold RR.next at m;refine qM h.rd.row ?_;refine ah (λg=>?_) (λg=>?_)
 ·have S:r.b.ready≠0:=by simpa using g
  rw[if_pos S] at m;exact m F si rs A _ h (aO.nil _ _ _ _) (λb q=>absurd q (aU b)) (λ_=>rfl)
 have S:¬r.b.ready≠0:=by simpa using g
 have U:r.b.ready=0:=by omega
 rw[if_neg S] at m;refine ao.ld (c:=ab .i64) (i:=7) (x:=(r.at_:Int)) h.rd.row (bK.tail (j:=1) rfl) ?_;refine ao.ld (c:=ab .i64) (i:=6) (x:=(r.rows:Int)) h.rd.row (bK.tail (j:=0) rfl) ?_;refine ah (λg=>?_) (λg=>?_)
 ·have V:r.at_=r.rows:=by
   have:(r.at_:Int)=(r.rows:Int):=by simpa using g
   omega
  rw[if_pos V] at m;rw[U];exact m F si rs A _ h (aO.nil _ _ _ _) (λb q=>absurd q (aU b)) (λ_=>rfl)
 have V:¬r.at_=r.rows:=λq=>by rw[q] at g;simp at g
 rw[if_neg V] at m;have a1:r.at_<r.rows:=by have:=ok.at_;omega
 refine ao.ld (c:=ab .i64) (i:=7) (x:=(r.at_:Int)) h.rd.row (bK.tail (j:=1) rfl) ?_;refine ao.ld (c:=ab .i64) (i:=3) (x:=aL r.b.width) h.rd.row (bK.get 3 _ rfl) ?_;have X:=ok.room;have a6:=ok.rows;rw[I];refine⟨by omega,?_⟩;have hdiv:QI.wrap (Rt (r.at_:Int) (r.b.room:Int))=((r.at_/r.b.room:Nat):Int):=by
  have h1:Rt (r.at_:Int) (r.b.room:Int)=((r.at_/r.b.room:Nat):Int):=rfl;have h2:=VK r.at_ r.b.room;rw[h1];generalize r.at_/r.b.room=q at h2 ⊢;exact wrap64 (by omega) (by omega)
 rw[hdiv];have a7:=Xi r.at_ r.b.room;have a8:=VK r.at_ r.b.room;refine Ii hg M O h ok (by omega) (by omega) hn z Q h0 λY a o Z v hz=>?_;obtain⟨k1,k2,k3,k4,_,k6⟩:=RR.qb (s:=s) (j:=r.at_/r.b.room) ok;generalize (r.load s (r.at_/r.b.room)).1=s1 at*;generalize (r.load s (r.at_/r.b.room)).2.1=f at*;generalize (r.load s (r.at_/r.b.room)).2.2=e2 at*;refine ah (λg=>?_) (λg=>?_)
 ·have e3:e2≠0:=by simpa using g
  rw[if_pos e3] at m;exact m Y a o Z _ v (aO.nil _ _ _ _) (λb q=>absurd q (aU b)) (λ_=>rfl)
 have e3:¬e2≠0:=by simpa using g
 rw[if_neg e3] at m;obtain⟨k7,k8⟩:=k6 (by omega);have hlen:=k1.page _ k8;rw[k7,k2] at hlen;have hm:=Nat.mod_lt r.at_ X;have bb:=Yd r.at_ r.b.room;have bd:r.b.room*(r.at_/r.b.room)=r.at_/r.b.room*r.b.room:=Xb _ _;have B:r.at_%r.b.room<f.ins.length:=by rw[hlen];omega
 refine ao.ld (c:=aq) (i:=9) (x:=a) v.rd.row (bK.tail (j:=3) rfl) ?_;refine ao.ld (c:=ab .i64) (i:=7) (x:=(f.at_:Int)) v.rd.row (bK.tail (j:=1) rfl) ?_;refine ao.ld (c:=ab .i64) (i:=3) (x:=aL f.b.width) v.rd.row (bK.get 3 _ rfl) ?_;rw[k7,I,k3];refine⟨by omega,?_⟩;have J:RP (r.at_:Int) (r.b.room:Int)=((r.at_%r.b.room:Nat):Int):=rfl;rw[J];refine v.rd.ins.rows.ld B λad x ha hx=>?_;have al:=k1.cols _ (Re B);refine qC hx (by omega) λl A2 o2 x2 f2=>?_;have D:=v.ext x2;refine ao.ld (c:=ab .i64) (i:=7) (x:=(f.at_:Int)) D.rd.row (bK.tail (j:=1) rfl) ?_;refine ao.st D.rd.row (i:=7) (by simp[b8]) rfl λA3 r3 m3 z3=>?_;rw[k3,aD r.at_ (by omega)] at r3;have af:bK A3 k OI p f.b [.int .i64 (f.rows:Int),.int .i64 ((r.at_+1:Nat):Int),.int .i64 (lF f.page),a.v]:=by
  have e:(b8 p f.b++[.int .i64 (f.rows:Int),.int .i64 (r.at_:Int),.int .i64 (lF f.page),a.v]).toArray.setIfInBounds 7 (.int .i64 ((r.at_+1:Nat):Int))=(b8 p f.b++[.int .i64 (f.rows:Int),.int .i64 ((r.at_+1:Nat):Int),.int .i64 (lF f.page),a.v]).toArray:=by
   simp[b8]
  rw[e] at r3;exact r3
 have B3:jr H0 F0 O0 k p dp a o Y A3 s1 {f with at_:=r.at_+1}:=D.dz m3 ⟨af,D.rd.ins.mod m3 (λb C q=>D.rd.EG (q▸C)) λx hx b C q=>D.rd.jS x hx (q▸C)⟩ λb q=>.inl q;have y:∀b,oI k a o b->b<Z.size:=v.rd.lt;have bh:k<Z.size:=y k (.inl rfl);refine m Y a o A3 l B3 ?_ (λb C=>?_) λu=>(by cases u)
 ·have eg:f.ins.getD (r.at_%r.b.room) []=f.ins[r.at_%r.b.room]:=by rw[RY,QK B];rfl
  rw[eg];exact o2.mod m3 λb C q=>by have:=f2 b C;omega
 ·have:=f2 b C;exact⟨by omega,λq=>by have:=v.aj.lt b q;omega,λq=>by have:=y b q;omega⟩
theorem uQ {K:(Sl×Bool×Int)->aa->Prop}(v:Gl H0)(m:¬F0 bt)(o:bt≠k)(h:jr H0 F0 O0 k p dp si rs F A s r)(ok:r.Ok)
  (x:r.b.name.size<=9223372036854775807) (g:s.d.aH<68719470000) (u:s.next<1099511627776) (y:0<=s.next)
  (z:∀F' e f j l,jr H0 F0 O0 k p dp e f F' j (r.next s).1 (r.next s).2.1->aO j 0 fM 1 l ((r.next s).2.2.1.map (QT .u64))->(∀b,ai l b->A.size<=b/\¬F' b/\¬oI k e f b)->K (l,(r.next s).2.2.2.1,(r.next s).2.2.2.2) j):Fm.sp (aK k) A K:=
 Ef v m o h ok x g u y λF' e f j l a b c _=>z F' e f j l a b c
end
end
def EI:eZ Int:=⟨1,λx=>[.int .i64 x],λ_=>rfl,λx u hu=>by simp at hu;subst hu;rfl⟩
def EN:eZ (List UInt8):=⟨1,λx=>[.string ⟨x.toArray⟩],λ_=>rfl,λx u hu=>by simp at hu;subst hu;rfl⟩
theorem Cu (l:List Int):EI.all l=l.map (QT .i64):=by
 induction l with
 |nil=>rfl
 |cons x l a=>
   have c:EI.all (x::l)=.int .i64 x::EI.all l:=rfl;rw[c,a];rfl
theorem Bc (l:List (List UInt8)):EN.all l=l.map λx=>.string ⟨x.toArray⟩:=by
 induction l with
 |nil=>rfl
 |cons x l a=>
   have c:EN.all (x::l)=.string ⟨x.toArray⟩::EN.all l:=rfl;rw[c,a];rfl
theorem sH {α:Type} [Inhabited α]{enc:α->gp}{w:World}{g n:Nat}{cur:Array gp}{e:ic}{d:Array α}{os:Array Obj}(c:w.heap[g]?=some (.cells cur e (0,0)))(hd:d.size<=cur.size):
  (UI (Ur enc (UU w n) g 0 d) os).heap[g]?=some (.cells (Tu enc 0 d cur) e (0,0))/\
  Mod (λb=>b=g) w.heap (UI (Ur enc (UU w n) g 0 d) os).heap/\(Tu enc 0 d cur).size=cur.size/\(Tu enc 0 d cur).toList.take d.size=d.toList.map enc:=by
 have a:g<w.heap.size:=aI c;refine⟨?_,⟨?_,λb f h=>?_⟩,by simp[Tu],?_⟩
 ·simp only[UI,Ur,Vk,UU];rw[TS (by simpa using a),TX,if_pos rfl,c];rfl
 ·simp[UI,Ur,Vk,UU]
 ·simp only[UI,Ur,Vk,UU];rw[TS (by simpa using f),TX,if_neg (Sg h)]
 ·apply List.ext_getElem?;intro k;rw[RF];by_cases hk:k<d.size
  ·rw[if_pos hk];simp[Tu];rw[Array.getElem?_eq_getElem (by omega)];simp[hk]
  ·rw[if_neg hk,Th (by simp;omega)]
theorem Al {s:Sl}{l:List Int}{H:aa}{K:Unit->aa->Prop}(h:aF EI jm H s l)(hl:l.length<4611686018427387904)
  (E:∀H',aF EI jm H' s (l.mergeSort λx y=>decide (x<=y))->Mod (ai s) H H'->K () H'):Pd.sp s H K:=by
 intro w hw;subst hw;rcases id h.2 with ⟨m,Y⟩|⟨g,cap,cur,m,M,z,O,Q,G,R⟩
 ·have B:=h.n (by decide);have C:l=[]:=Ra (by omega);have D:=YU sortInt none 0 w;rw[m];refine D.mono λe w' ⟨he,c⟩=>?_;subst c;subst C;exact⟨_,he,⟨(),rfl,E _ (by simpa using h) (.refl _ _)⟩,.refl _⟩
 ·have B:=h.n (by decide);have u:=Cu l;have a:EI.size=1:=rfl;have hH:Sort.Holds (QT .i64) w g 0 l.toArray:=by
   intro j S;have v:j<l.length:=by simpa using S
   have I:(EI.all l)[j]?=some (.int .i64 l[j]):=by rw[u];simp[v]
   rw[<-R,RF,if_pos (by rw[a];omega)] at I;refine⟨?_,?_⟩
   ·rw[R3];have:=cC (o:=j) z (by simpa using I);simp[v];exact this
   ·rw[R3];exact dJ z
  have D:=Zs sortInt g 0 cap l w hH (aI z) hl;rw[m,B];refine D.mono λe w' ⟨he,n,os,c⟩=>?_;have hm:=RG l (λx y=>decide (x<=y));have f:(l.mergeSort λx y=>decide (x<=y)).length=l.length:=hm.length_eq;obtain⟨U,V,X,J⟩:=sH (enc:=QT .i64) (n:=n) (d:=(l.mergeSort λx y=>decide (x<=y)).toArray) (os:=os) z (by rw[G,a];simp[f];omega);subst c;refine⟨_,he,⟨(),rfl,E _ ⟨?_,.inr ⟨g,cap,_,m,M,U,O,Q,by rw[X];exact G,?_⟩⟩ (V.mono λb _ e=>⟨⟨g,0,none⟩,?_,e.symm⟩)⟩,(.of_le rfl (Nat.le_add_right _ _))⟩
  ·rw[Cu,a];simp[f,B]
  ·rw[Cu,a,Rz,B];have:(l.mergeSort λx y=>decide (x<=y)).toArray.size=l.length:=by simp[f]
   rw[this] at J;rw[J]
  ·cases s;simp only[Sl.v,Q2] at m;exact m.1
section
open Go.MapKept
theorem zt {x y:Int}{H:aa}{K:Bool->aa->Prop}(a:K (decide (x<y)) H):LJ.sp x y H K:=by
 refine LJ.of ?_;unfold LJ.vc;refine Lp.of ?_;unfold Lp.vc;exact aE (by simp) a
theorem xj {x:Int}{H:aa}{K:Bool->aa->Prop}(a:K false H):JT.sp x H K:=by
 refine JT.of ?_;unfold JT.vc;have:(x !=x)=false:=by simp
 rw[this];exact a
theorem Mv {i j:Nat}(h:i+j<4611686018427387904):QI.wrap (dQ .u64 (Rj.wrap (QI.wrap ((i:Int)+(j:Int)))) 1)=(((i+j)/2:Nat):Int):=by
 rw[show QI.wrap ((i:Int)+(j:Int))=(i:Int)+(j:Int) from wrap64 (by omega) (by omega)];have h1:Rj.wrap ((i:Int)+(j:Int))=((i+j:Nat):Int):=by
  rw[YA];omega
 rw[h1];have a:dQ .u64 ((i+j:Nat):Int) 1=(((i+j)/2:Nat):Int):=by
  unfold dQ;have:(2:Int)^(min (1:Int).toNat Rj.bits)=2:=by decide
  rw[this,Int.fdiv_eq_ediv_of_nonneg _ (by omega)];omega
 rw[a,wrap64 (by omega) (by omega)]
theorem GI {L:List Int}{t:Int}{i:Nat}(hi:i<=L.length)(h1:∀k (hk:k<L.length),k<i->L[k]<t)(f:∀k (hk:k<L.length),i<=k->¬L[k]<t):(L.filter λx=>decide (x<t)).length=i:=by
 have e:L=L.take i++L.drop i:=(Tj i L).symm;rw[e,Sh,Ri];have a:(L.take i).filter (λx=>decide (x<t))=L.take i:=by
  rw[Su];intro x c;obtain⟨k,hk,rfl⟩:=Sb c;simp at hk ⊢;exact h1 k (by omega) (by omega)
 have b:(L.drop i).filter (λx=>decide (x<t))=[]:=by
  rw[List.filter_eq_nil_iff];intro x c;obtain⟨k,hk,rfl⟩:=Sb c;simp at hk ⊢;have:=f (i+k) (by omega) (by omega);omega
 rw[a,b];simp;omega
theorem EA {z:Sl}{L:List Int}{t:Int}{H:aa}{K:(Int×Bool)->aa->Prop}(h:aF EI jm H z L)(hs:L.Pairwise (·<=·))(hl:L.length<2305843009213693952)
  (G:∀b,K ((((L.filter λx=>decide (x<t)).length:Nat):Int),b) H):Ks.sp z t H K:=by
 refine Ks.of ?_;unfold Ks.vc;have O:=h.n (by decide);have u:∀a b (v:a<L.length) (f:b<L.length),a<=b->L[a]<=L[b]:=by
  intro a b v f R;rcases RA a b with q|q
  ·exact(List.pairwise_iff_getElem.1 hs) a b v f q
  ·have:a=b:=by omega
   subst this;exact TG _
 have rd:∀(i:Nat) (hi:i<L.length) {K':Int->Prop},K' L[i]->ae z.a λa=>(0<=(i:Int)/\(i:Int)<(z.n:Int))/\ld (ab .i64) H (a.add ((i:Int).toNat*1)) λx=>K' x:=by
  intro i hi K' hk;obtain⟨ad,v⟩:=bX.addr h.rd (by decide) (by omega);rw[v];refine⟨⟨by omega,by omega⟩,?_⟩;have:=bX.ld (c:=ab .i64) (K:=K') h.rd v (i:=i) (j:=0) (x:=L[i]) (y:=L[i]) (QK hi) rfl (n:=i*1) rfl hk;simpa[Ru] using this
 refine⟨Nat×Nat,λg x H'=>x=((g.1:Int),(g.2:Int))/\H'=H/\g.1<=g.2/\g.2<=L.length/\(∀k (hk:k<L.length),k<g.1->L[k]<t)/\(∀k (hk:k<L.length),g.2<=k->¬L[k]<t),λg=>g.2 - g.1,⟨(0,L.length),by rw[O];rfl,rfl,Q5 _,QN _,λk _ hk=>by simp at hk,λk hk h=>by simp at h;omega⟩,?_⟩;rintro⟨i,j⟩ _ H' ⟨rfl,rfl,I,Q,B,C⟩;refine ah (λJ=>?_) (λJ=>?_)
 ·have D:i<j:=by simpa using J
  have hm:=Mv (i:=i) (j:=j) (by omega);simp only[hm];have m:(i+j)/2<L.length:=by omega
  refine rd _ m ?_;refine zt ?_;refine ah (λf=>?_) (λf=>?_)
  ·have e:L[(i+j)/2]<t:=by simpa using f
   refine⟨((i+j)/2+1,j),⟨?_,rfl,by omega,Q,λk hk o=>?_,C⟩,?_⟩
   ·rw[aD _ (by omega)]
   ·exact YP (u k _ hk m (by simp only at o;omega)) e
   ·show j - _<j - i;simp only;omega
  ·have e:¬L[(i+j)/2]<t:=by simpa using f
   refine⟨(i,(i+j)/2),⟨rfl,rfl,by simp only;omega,by simp only;omega,B,λk hk o M=>?_⟩,?_⟩
   ·exact e (YP (u _ k m hk o) M)
   ·show _ - i<j - i;simp only;omega
 ·have D:i=j:=by
   have:¬i<j:=by simpa using J
   simp only at I;omega
  subst D;have E:=GI Q B C;rw[E] at G;refine ah (λf=>?_) (λ_=>G _);have e:i<L.length:=by rw[O] at f;simpa using f
  refine rd i e ?_;refine ah (λ_=>G _) (λ_=>?_);refine rd i e ?_;refine xj ?_;exact aE rfl (G _)
theorem Hr:tc QH Du jm EI.size 8:=fe (by kernel_rfl)
theorem qd:yp.size=514:=rfl
theorem Bh {u z:Sl}{ws:List Wr}{ns:List Int}{H:aa}{K:Sl->aa->Prop}(e:aF yp sS H u ws)(M:aF EI jm H z ns)(hlen:ns.length+ws.length<=137438953472)
  (hK:∀s H',aF EI jm H' s (ns++ws.map (·.no))->Grown z s H H'->K s H'):
  ay (Sl×Int) (z,(0:Int)) H λh a j=>br (decide (a.2<(u.n:Int))) (ae u.a λO=>(0<=a.2/\a.2<(u.n:Int))/\cN ku 514 j (O.add (a.2.toNat*514)) λ(Q:Array gp)=>aG j (zc QH sS) sS λB V=>jo QH (Q3 sS (.pointer (some B)) (.agg Q)) V λI=>ld (ab .i64) I (B.add 0) λ(R:Int)=>aG I #[.int .i64 R] jm λS H8=>bf aq QH (QM #[Du,Du] Du #[a.1.v,.slice (some S) 1 1]) H8 λ(s:Sl) X=>h (s,QI.wrap (a.2+(1:Int))) X) (K a.1 j):=by
 have Y:=e.n (by decide);have af:=M.lt;have U:∀b,ai u b->¬ai z b:=e.apart M (by decide);refine av ws.length (λk x j=>x.2=(k:Int)/\aF EI jm j x.1 (ns++(ws.take k).map (·.no))/\Grown z x.1 H j) ⟨rfl,by simpa using M,.refl _ _,λb m=>.inl m⟩ ?_;rintro k ⟨s,i⟩ j next hk ⟨hi,J,g5⟩ f
 simp only at hi;subst hi;simp only at J g5 f ⊢;refine ah (λC=>?_) (λC=>?_)
 ·have g:k<ws.length:=by rw[Y] at C;simpa using C
  have o:aF yp sS j u ws:=e.ar λb m hl=>g5.1.same b hl (U b m);obtain⟨ad,Z⟩:=bX.addr o.rd (by decide) (by omega);rw[Z];refine⟨⟨by omega,by omega⟩,?_⟩;have hw:ws[k]?=some ws[k]:=QK g;refine bX.cN (c:=ku) (y:=(yp.enc ws[k]).toArray) o.rd Z hw rfl (by simp[qd]) qd.symm ?_;have D:(yp.enc ws[k]).toArray.size=514:=by simp[yp.len];rfl
  refine au λV s6 r6 m6=>?_;refine r6.iE (by rw[D];kernel_rfl) (by rw[D];exact kJ) (by simpa using yp.one ws[k]) λI r7 m7 s7=>?_;refine r7.ld (c:=ab .i64) (i:=0) (x:=ws[k].no) rfl ?_;have al:=s7.trans s6;have o7:aF EI jm I s (ns++(ws.take k).map (·.no)):=J.ar λb m hl=>(m7.same b (by omega) (by omega)).trans (m6.same b hl id);refine aF.push (E:=EI) Hr (x:=ws[k].no) o7 rfl (by simp;omega) (by simp;omega) λs9 X o9 g9 _=>?_;have an:=J.lt;refine f g _ _ ⟨aD k (by omega),?_,?_⟩
  ·rw[QO g,Rm,<-RD];exact o9
  ·have z1:=g5.1.size;have z2:=g9.1.size;refine⟨⟨by omega,λb m G=>?_⟩,λb m=>?_⟩
   ·refine(g9.1.same b (by omega) λhh=>?_).trans ((m7.same b (by omega) (by omega)).trans ((m6.same b (by omega) id).trans (g5.1.same b m G)));rcases g5.2 b hh with q|q
    ·exact G q
    ·omega
   ·rcases g9.2 b m with q|q
    ·exact g5.2 b q
    ·right;omega
 ·have g:k=ws.length:=by rw[Y] at C;simp at C;omega
  subst g;refine hK s j ?_ g5;simpa using J
def tG (q:Wr->Bool)(f:Fl):Fl:=⟨f.name,(f.log.filter q).foldl dZ f.synced,[]⟩
theorem nU:∀(ws:List Wr) (l:List Pg) (w:Wr),w∈ws->w.page+1<=(ws.foldl dZ l).length
 |[],_,_,h=>by cases h
 |a::ws,l,w,h=>by
   rcases QX.1 h with e|h
   ·subst e;exact QZ (by rw[di];omega) (mV ws (dZ l w))
   ·exact nU ws (dZ l a) w h
theorem nR (ws:List Wr)(q:Wr->Bool)(k:Nat)(l:List Pg):(((ws.take k).filter q).foldl dZ l).length<=(ws.foldl dZ l).length:=by
 refine QZ (w5 (ws.take k) q l l (QN _)) ?_
 conv=>rhs;rw[<-Tj k ws,Uc]
 exact mV _ _
theorem Ju {d m:Nat}{a:FG}{f:Fl}{z:Sl}{L:List Int}{u most quota ops nx cin kp:Int}{laid down:Bool}{H:aa}{K:aa->Prop}(J:cO H a f)(hd:ao H d yS (fN m u most quota ops nx laid cin kp down))(hz:aF EI jm H z L)
  (hL:L.Pairwise (·<=·)) (bO:L.length<2305843009213693952) (hp:f.az.length<=1048576) (dm:f.log.length<68719476736) (b0:¬a.fp d)
  (hK:∀R H',R.p=a.p->cO H' R (tG (λw=>jB kp (L.filter λx=>decide (x<w.no)).length) f)->ao H' d yS (fN m (QI.wrap (u+((tG (λw=>jB kp (L.filter λx=>decide (x<w.no)).length) f).az.length:Int))) most quota ops nx laid cin kp down)->
   Mod (λb=>a.fp b\/b=d) H H'->(∀b,R.fp b->a.fp b\/H.size<=b)->K H'):
  ld aq H (Ru ⟨a.p,0,none⟩ 1) λ(b1:Sl)=>Fo.sp b1 H λ(b2:Sl) b3=>st b3 (Ru ⟨a.p,0,none⟩ 0) b2.v λan=>ld aq an (Ru ⟨a.p,0,none⟩ 2) λ(S:Sl)=>ay Int (0:Int) an λB C M=>br (decide (C<(S.n:Int))) (ae S.a λb4=>(0<=C/\C<(S.n:Int))/\cN ku 514 M (b4.add (C.toNat*514)) λ(b5:Array gp)=>aG M (zc QH sS) sS λO b6=>jo QH (Q3 sS (.pointer (some O)) (.agg b5)) b6 λa1=>ld (ab .i64) a1 (O.add 0) λ(b7:Int)=>Ks.sp z b7 a1 λ(a6:(Int×Bool)) D=>ld (ab .u64) D (Ru ⟨d,0,none⟩ 8) λ(a7:Int)=>0<=(RP a6.1 (64:Int))/\br ((mS .u64 (dQ .u64 a7 (RP a6.1 (64:Int))) (1:Int))==(1:Int)) (ld aq D (Ru ⟨a.p,0,none⟩ 0) λ(a8:Sl)=>ld (ab .i64) D (O.add 1) λ(bd:Int)=>cN ku 512 D (O.add 2) λ(bh:Array gp)=>IG.sp a8 bd bh D λ(b9:Sl) cb=>st cb (Ru ⟨a.p,0,none⟩ 0) b9.v λck=>B (QI.wrap (C+(1:Int))) ck) (B (QI.wrap (C+(1:Int))) D)) (ld aq M (Ru ⟨a.p,0,none⟩ 0) λ(bl:Sl)=>Fo.sp bl M λ(cm:Sl) cx=>st cx (Ru ⟨a.p,0,none⟩ 1) cm.v λcy=>st cy (Ru ⟨a.p,0,none⟩ 2) (.slice none 0 0) λU=>ld (ab .i64) U (Ru ⟨d,0,none⟩ 1) λ(bn:Int)=>ld aq U (Ru ⟨a.p,0,none⟩ 0) λ(bs:Sl)=>st U (Ru ⟨d,0,none⟩ 1) (.int .i64 (QI.wrap (bn+(bs.n:Int)))) λcz=>K cz):=by
 have V:a.p≠d:=λe=>b0 (e▸.inl rfl);have X:∀{E:Type} {En:eZ E} {e:ic} {s:Sl} {l:List E},aF En e H s l->e≠Ew->∀b,ai s b->b≠a.p:=by
  intro E En e s l o ht b g eb;obtain⟨c,q⟩:=o.obj b g;rw[eb] at q;exact ht (aM J.row q).symm
 have zd:∀b,ai z b->b≠d:=λb g eb=>by
  obtain⟨c,q⟩:=hz.obj b g;rw[eb] at q;exact absurd (aM hd q) (by decide)
 have bx:=X J.log (by decide);have dn:=X J.syn (by decide);have tz:=X hz (by decide);have dB:a.p<H.size:=aI J.row;have dD:d<H.size:=aI hd;have dA:f.synced.length<=f.az.length:=f.vS;refine J.row.ld (c:=aq) (i:=1) (x:=a.syn) rfl ?_;refine jP J.syn (by omega) λs1 H1 o1 m1 f1=>?_;have r1:=J.row.ext m1;refine r1.st (i:=0) (by simp) (by rfl) λH2 r2 m2 z2=>?_;refine r2.ld (c:=aq) (i:=2) (x:=a.log) rfl ?_;have bA:=J.log.n (by decide);have m12:Mod (λb=>b=a.p) H H2:=(Ext.mod m1).trans m2;have o2:aF vj vX H2 s1 f.synced:=o1.ar λb g hl=>m2.same b hl (by have:=f1 b g;omega);obtain⟨q,hq⟩:∃q:Wr->Bool,q=λw=>jB kp (L.filter λx=>decide (x<w.no)).length:=⟨_,rfl⟩;rw[<-hq] at hK;refine av f.log.length (λk i Y=>i=(k:Int)/\∃sl,ao Y a.p Ew #[sl.v,a.syn.v,a.log.v]/\aF vj vX Y sl (((f.log.take k).filter q).foldl dZ f.synced)/\Mod (λb=>b=a.p) H Y/\(∀b,ai sl b->H.size<=b)) ⟨rfl,s1,(show ao H2 a.p Ew #[s1.v,a.syn.v,a.log.v] from r2),by simpa using o2,m12,f1⟩ ?_;rintro k _ Y next hk ⟨rfl,sl,r5,o5,m5,f5⟩ I
 have z5:=m5.size;refine ah (λhc=>?_) (λhc=>?_)
 ·have G:k<f.log.length:=by rw[bA] at hc;simpa using hc
  have Q:aF yp sS Y a.log f.log:=J.log.ar λb g hl=>m5.same b hl (bx b g);obtain⟨ad,ha⟩:=bX.addr Q.rd (by decide) (by omega);rw[ha];refine⟨⟨by omega,by omega⟩,?_⟩;have hw:f.log[k]?=some f.log[k]:=QK G;obtain⟨w,bB⟩:∃w,w=f.log[k]:=⟨_,rfl⟩;rw[<-bB] at hw;refine bX.cN (c:=ku) (y:=(yp.enc w).toArray) Q.rd ha hw rfl (by simp[qd]) qd.symm ?_;have bC:(yp.enc w).toArray.size=514:=by simp[yp.len];rfl
  refine au λH6 s6 r6 m6=>?_;refine r6.iE (by rw[bC];kernel_rfl) (by rw[bC];exact kJ) (by simpa using yp.one w) λH7 r7 m7 s7=>?_;refine r7.ld (c:=ab .i64) (i:=0) (x:=w.no) rfl ?_;have v:Mod (λ_=>False) Y H7:=⟨by omega,λb g _=>(m7.same b (by omega) (by omega)).trans (m6.same b g id)⟩;have z7:aF EI jm H7 z L:=hz.ar λb g hl=>(v.same b (by omega) id).trans (m5.same b hl (tz b g));refine EA z7 hL bO λbb=>?_;have d7:ao H7 d yS (fN m u most quota ops nx laid cin kp down):=(hd.mod m5 (Sg V)).ext v;refine d7.ld (c:=ab .u64) (i:=8) (x:=kp) rfl ?_;refine⟨by simp only;exact Int.tmod_nonneg _ (by omega),?_⟩;have bD:q w=((mS .u64 (dQ .u64 kp (RP (((L.filter λx=>decide (x<w.no)).length:Nat):Int) 64)) 1)==1):=by rw[hq];rfl
  have bM:(f.log.take (k+1)).filter q=(f.log.take k).filter q++(if q w then [w] else []):=by
   rw[QO G,Sh,<-bB];cases cB:q w<;>simp[cB]
  have Z:ao H7 a.p Ew #[sl.v,a.syn.v,a.log.v]:=r5.ext v;have bN:aF vj vX H7 sl (((f.log.take k).filter q).foldl dZ f.synced):=o5.ar λb g hl=>v.same b hl id;refine ah (λg=>?_) (λg=>?_)
  ·have af:q w=true:=by rw[bD];exact g
   refine Z.ld (c:=aq) (i:=0) (x:=sl) rfl ?_;refine r7.ld (c:=ab .i64) (i:=1) (x:=(w.page:Int)) rfl ?_;refine⟨(gP w.b.1).toArray,?_,?_⟩
   ·rw[bg];refine r7.lX (by simp[gP,w.b.2]) λj hj=>?_;simp only[yp,Nat.add_comm 2 j];simp
   ·have dT:=nU f.log f.synced w (QL hw);have hle:=nR f.log q k f.synced;have c0:(f.log.foldl dZ f.synced).length=f.az.length:=rfl;refine Gq (no:=w.no) (b:=w.b) bN (by omega) (by omega) λs8 H8 o8 g8=>?_;have c3:¬ai sl a.p:=λhh=>by have:=f5 _ hh;omega
    have r8:ao H8 a.p Ew #[sl.v,a.syn.v,a.log.v]:=Z.mod g8.1 c3;refine r8.st (i:=0) (by simp) (by rfl) λH9 r9 m9 s9=>?_;have z8:=g8.1.size;have z57:=v.size;have f8:∀b,ai s8 b->H.size<=b:=λb g=>by
     rcases g8.2 b g with h|h
     ·exact f5 b h
     ·omega
    refine I G _ _ ⟨aD k (by omega),s8,(show ao H9 a.p Ew #[s8.v,a.syn.v,a.log.v] from r9),?_,?_,f8⟩
    ·rw[bM,if_pos af,Uc];exact o8.ar λb g hl=>m9.same b hl (by have:=f8 b g;omega)
    ·refine⟨by omega,λb g hn=>(m9.same b (by omega) hn).trans ((g8.1.same b (by omega) λhh=>?_).trans ((v.same b (by omega) id).trans (m5.same b g hn)))⟩;have:=f5 b hh;omega
  ·have af:q w=false:=by rw[bD];exact g
   refine I G _ _ ⟨aD k (by omega),sl,Z,?_,m5.trans (Ext.mod v),f5⟩;rw[bM,af];simpa using bN
 ·have G:k=f.log.length:=by rw[bA] at hc;simp at hc;omega
  rw[G,QS (QN _)] at o5;have hle:=nR f.log q f.log.length f.synced;rw[QS (QN _)] at hle;have c0:(f.log.foldl dZ f.synced).length=f.az.length:=rfl;refine r5.ld (c:=aq) (i:=0) (x:=sl) rfl ?_;refine jP o5 (by omega) λs6 H6 o6 m6 f6=>?_;have r6:=r5.ext m6;refine r6.st (i:=1) (by simp) (by rfl) λH7 r7 m7 s7=>?_;refine r7.st (i:=2) (by simp) (by rfl) λH8 r8 m8 s8=>?_;have z6:=m6.size;have c4:Mod (λb=>b=a.p) Y H8:=((Ext.mod m6).trans m7).trans m8;have al:=m5.trans c4;have d8:ao H8 d yS (fN m u most quota ops nx laid cin kp down):=hd.mod al (Sg V);refine d8.ld (c:=ab .i64) (i:=1) (x:=u) rfl ?_;refine r8.ld (c:=aq) (i:=0) (x:=sl) rfl ?_;refine d8.st (i:=1) (by simp[fN]) (by rfl) λH9 r9 m9 s9=>?_;have c5:=o5.n (by decide);have dc:(tG q f).az=(f.log.filter q).foldl dZ f.synced:=rfl;refine hK ⟨a.p,sl,s6,Sl.mk none 0 0⟩ H9 rfl ⟨?_,?_,?_,aF.nil _ _ _,?_⟩ ?_ ?_ ?_
  ·exact r8.mod m9 V
  ·refine o5.ar λb g hl=>?_;have:=f5 b g;exact(m9.same b (by omega) (by omega)).trans ((m8.same b (by omega) (by omega)).trans ((m7.same b (by omega) (by omega)).trans (m6.same b hl id)))
  ·refine o6.ar λb g hl=>?_;have:=f6 b g;exact(m9.same b (by omega) (by omega)).trans ((m8.same b (by omega) (by omega)).trans (m7.same b hl (by omega)))
  ·intro b g dk;have:=f6 b dk;have:=o5.lt b g;omega
  ·rw[dc,<-c5];exact r9
  ·refine⟨by omega,λb g hn=>(m9.same b (by have:=al.size;omega) λe=>hn (.inr e)).trans (al.same b g λe=>hn (.inl (.inl e)))⟩
  ·rintro b (e|g|g|⟨_,g,_⟩)
   ·exact .inl (.inl e)
   ·exact .inr (f5 b g)
   ·have:=f6 b g;right;omega
   ·cases g
end
section
open Go.MapKept
section
variable {H0:aa}{F0 O0:Nat->Prop}{k p dp:Nat}{si:Sl}{rs:List Sl}{F:Nat->Prop}{A:aa}{s:Pl}{r:RR}{c c1:hY}{low:Sl}{ll:List Int}
theorem nN {n room:Nat}(a:0<room):dr n room<=n:=by
 unfold dr;rcases Ww n with h|h
 ·subst h;rw[Nat.div_eq_of_lt (by omega)];omega
 ·apply Nat.le_of_lt_succ;rw[Nat.div_lt_iff_lt_mul a,RQ];have:=WB n a;omega
end
end
section
open Go.MapKept
def Down (ll:List Int)(ls:List (List Int)):Prop:=∀i j,i<=j->j<ls.length->aX (ls.getD j []) ll<0->aX (ls.getD i []) ll<0
section
variable {H0:aa}{F0 O0:Nat->Prop}{k p dp:Nat}{si:Sl}{rs:List Sl}{F:Nat->Prop}{A:aa}{s:Pl}{r:RR}{low:Sl}{ll:List Int}
theorem D0 {t:ic}{b:Rb}{rest:List gp}{n:Nat}{H:aa}{K:Int->aa->Prop}(h:bK H k t p b rest)(e:0<b.room)(u:n<=528482304)(f:K (dr n b.room:Int) H):KZ.sp (aK k) (n:Int) H K:=by
 refine KZ.of ?_;unfold KZ.vc;unfold aK;simp only[aw];obtain⟨a,g⟩:=de b;refine ao.ld (c:=ab .i64) (i:=3) (x:=aL b.width) h (bK.get 3 _ rfl) ?_;refine ao.ld (c:=ab .i64) (i:=3) (x:=aL b.width) h (bK.get 3 _ rfl) ?_;rw[a];refine⟨by omega,?_⟩;have j:QI.wrap ((n:Int)+(b.room:Int))=((n+b.room:Nat):Int):=by rw[wrap64 (by omega) (by omega)];omega
 have m:QI.wrap (((n+b.room:Nat):Int) - 1)=((n+b.room - 1:Nat):Int):=by rw[wrap64 (by omega) (by omega)];omega
 have o:Rt ((n+b.room - 1:Nat):Int) (b.room:Int)=((dr n b.room:Nat):Int):=rfl;rw[j,m,o];have:=nN (n:=n) e;rw[wrap64 (by omega) (by omega)];exact f
end
end
section
open Go.MapKept
theorem yu {b:List Int}(h:b.length=8):jK b 1=[[cp b]]:=by
 have hs:bI 1=8:=by decide
 have a:eU b 1=true:=by unfold eU;rw[hs,h];rfl
 unfold jK;rw[if_pos a,hs,h];have:(8/(8:Int).toNat)=1:=by decide
 rw[this];unfold rowsOf;rw[hs];have e:List.take 8 b=b:=QS (by omega);simp[WU,rowOf,bS,e]
theorem jU {s:Pl}{n:ByteArray}{W:Int}{r:RR}(h:(rnOpen s n W).2.1=some r):r.Ok/\r.b=⟨n,W,0,false⟩/\r.at_=0/\r.page=none/\r.ins=[]:=by
 unfold rnOpen at h;split at h
 ·cases h
 ·rename_i a;split at h
  ·cases h
  ·split at h
   ·cases h
   ·split at h
    ·cases h
    ·split at h
     ·rename_i hw;cases h;have:=iP (eV ((s.look n 0).2.2.1.drop 1));have h1:=hw.1;refine⟨⟨?_,Q5 _,by simp,by simp only;omega,by simp⟩,rfl,rfl,rfl,rfl⟩;have:=de ⟨n,W,0,false⟩;unfold Rb.room at this ⊢;simp only at this ⊢;omega
     ·cases h
variable {F:Nat->Prop}{H:aa}{p dp:Nat}{s:Pl}{n:ByteArray}{W:Int}{K:(Option hY×Int)->aa->Prop}
set_option maxHeartbeats 1000000 in
theorem pP (hg:Gl H)(hp:aA F H p dp s)(hn:n.size<=9223372036854775807)(v:s.d.aH<68719470000)(V:s.next<1099511627776)(h0:0<=s.next)
  (a:∀F' H',aA F' H' p dp (rnOpen s n W).1->Step F F' H H'->(rnOpen s n W).2.1=none->K (none,(rnOpen s n W).2.2) H')
  (h:∀F' H' k r,aA F' H' p dp (rnOpen s n W).1->Step F F' H H'->(rnOpen s n W).2.1=some r->AM H' k p r aY []->H.size<=k->¬F' k->K (aK k,(rnOpen s n W).2.2) H'):IH.sp (aK p) n W H K:=by
 refine IH.of ?_;unfold IH.vc;refine wm (e:=if aL W=0 then 60 else 0) (if_neg (by unfold aK;simp)) λH1 B=>?_;refine au λH2 z2 r2 e2=>?_;refine ao.iE (cs:=EK (aK p) n W) r2 nP sV (pO _ _ _) λE r3 m3 z3=>?_;have X:Ext H E:=⟨by have:=m3.size;have:=B.size;omega,λb hb _=>(m3.same b (by have:=B.size;omega) (by intro q;have:b=H1.size:=q;have:=B.size;omega)).trans ((e2.same b (by have:=B.size;omega) id).trans (B.same b hb id))⟩;have p3:=hp.ext X;have g3:Gl E:=hg.mod X id;have S3:Step F F H E:=⟨X.mod,λb q=>.inl q⟩;have bs:=B.size;have hk:¬F H1.size:=λq=>by have:=hp.lt _ q;omega
 by_cases R:aL W=0
 ·simp only[if_pos R];have em:rnOpen s n W=(s,none,60):=if_pos R;rw[em] at a;exact aR rfl (a F E p3 S3 rfl)
 simp only[if_neg R];refine aE rfl ?_;have b3:bK E H1.size sX p ⟨n,W,0,false⟩ []:=r3;refine Ad (g:=0) (b:=⟨n,W,0,false⟩) g3 b3 p3 hk (by decide) hn v V h0 λu G sl p4 Y S f4 Z=>?_;have em:rnOpen s n W=if (s.look n 0).2.2.2≠0 then ((s.look n 0).1,none,(s.look n 0).2.2.2)
  else if ¬((s.look n 0).2.1=2/\(s.look n 0).2.2.1.length=9/\(((s.look n 0).2.2.1.getD 0 0).toNat:Int)=W) then ((s.look n 0).1,none,280)
  else if ((s.look n 0).1.d.len n).2≠0 then ((s.look n 0).1,none,((s.look n 0).1.d.len n).2)
  else if cp (eV ((s.look n 0).2.2.1.drop 1))<=528482304/\((s.look n 0).1.d.len n).1=1+dr (cp (eV ((s.look n 0).2.2.1.drop 1))).toNat (aL W).toNat then
   ((s.look n 0).1,some ⟨⟨n,W,0,false⟩,(cp (eV ((s.look n 0).2.2.1.drop 1))).toNat,0,none,[]⟩,0)
  else ((s.look n 0).1,none,280):=by unfold rnOpen;rw[if_neg R]
 rw[em] at a h;simp only at p4 S f4 Z ⊢;generalize (s.look n 0).1=s4 at*;generalize (s.look n 0).2.1=kd at*;generalize (s.look n 0).2.2.1=b at*;generalize (s.look n 0).2.2.2=e at*;have I:=S3.trans Y;have b4:bK G H1.size sX p ⟨n,W,0,false⟩ []:=b3.mod Y.mod hk;have y:=cg S;have af:=y.n;refine ah (λf=>?_) (λf=>?_)
 ·have e0:e≠0:=by simpa using f
  rw[if_pos e0] at a;exact a u G p4 I rfl
 have e0:¬e≠0:=by simpa using f
 rw[if_neg e0] at a h;refine ah (λf=>?_) (λf=>?_)
 ·have m:¬(kd=2/\b.length=9/\((b.getD 0 0).toNat:Int)=W):=by
   rintro⟨q1,q2,_⟩;rw[af,q2,q1] at f;simp at f
  rw[if_pos m] at a;exact a u G p4 I rfl
 have al:kd=2/\b.length=9:=by
  simp only[Sp,bne_eq_false_iff_eq] at f;refine⟨Tp.1 (by have:=f.1;show kd.toNat=2;omega),by have:=f.2;omega⟩
 obtain⟨an,a1⟩:=al;refine eR y (i:=0) (by omega) rfl λad ha=>?_;have a6:QI.wrap ((b[0]'(by omega)).toNat:Int)=((b.getD 0 0).toNat:Int):=by
  have:b.getD 0 0=b[0]'(by omega):=by rw[RY,QK (by omega)];rfl
  have bx:=(b[0]'(by omega)).toNat_lt;rw[this,wrap64 (by omega) (by omega)]
 rw[a6];refine ah (λf=>?_) (λf=>?_)
 ·have m:¬(kd=2/\b.length=9/\((b.getD 0 0).toNat:Int)=W):=by
   rintro⟨_,_,q3⟩;rw[q3] at f;simp at f
  rw[if_pos m] at a;exact a u G p4 I rfl
 have J:¬¬(kd=2/\b.length=9/\((b.getD 0 0).toNat:Int)=W):=λq=>q ⟨an,a1,by simpa only[bne_eq_false_iff_eq] using f⟩;rw[if_neg J] at a h;refine yL p4 ?_;obtain⟨D,d1,_,_⟩:=aA.cD (g3.mod Y.mod p3.fi) p4;refine uU d1 ?_;have hm:=Dk.kG d1.wf n;generalize (s4.d.len n).1=N at*;generalize (s4.d.len n).2=e5 at*;refine ah (λf=>?_) (λf=>?_)
 ·have C:e5≠0:=by simpa using f
  rw[if_pos C] at a;exact a u G p4 I rfl
 have C:¬e5≠0:=by simpa using f
 rw[if_neg C] at a h;refine⟨by omega,?_⟩;have hd:=y.drop S.cap 1;have a7:(eV (b.drop 1)).length=8:=by rw[lq,RM];omega
 refine wL (b:=eV (b.drop 1)) hd (by have:=S.cap;show sl.n - 1<=sl.c - 1;omega) (λx hx=>?_) (by omega) λsr rs M ro z=>?_
 ·unfold eV at hx;obtain⟨c,_,rfl⟩:=QW.1 hx;have:=c.toNat_lt;omega
 rw[yu a7] at ro;have U:=p4.ext z;have O:Step F u H M:=I.trans ⟨z.mod,λb q=>.inl q⟩;have b5:=b4.ext z;refine ro.rows.ld (i:=0) (by simp) λbA x1 bB a8=>?_;have Q:Ints .u64 M x1 [cp (eV (b.drop 1))]:=a8;refine jW Q (i:=0) (j:=0) rfl (by simp) λbC bD=>?_;have bb:=iP (eV (b.drop 1));simp only[List.getD_cons_zero];obtain⟨w,bd⟩:∃w,w=cp (eV (b.drop 1)):=⟨_,rfl⟩;rw[<-bd] at a h bb ⊢;have bh:=de ⟨n,W,0,false⟩;refine ah (λf=>?_) (λf=>?_)
 ·have hw:w<=528482304:=by simpa using f
  obtain⟨wn,rfl⟩:∃wn:Nat,w=(wn:Int):=⟨w.toNat,by omega⟩;rw[show QI.wrap (wn:Int)=(wn:Int) from wrap64 (by omega) (by omega)];have o:0<(Rb.room ⟨n,W,0,false⟩):=by
   have:=bh.1;simp only at this;omega
  refine D0 (b:=⟨n,W,0,false⟩) b5 o (by omega) ?_;have bl:=nN (n:=wn) o;have bn:Rb.room ⟨n,W,0,false⟩=(aL W).toNat:=rfl;rw[bn] at bl ⊢;have w2:QI.wrap (1+(dr wn (aL W).toNat:Int))=((1+dr wn (aL W).toNat:Nat):Int):=by
   rw[wrap64 (by omega) (by omega)];omega
  rw[w2];rw[QP] at a h;refine ah (λf=>?_) (λf=>?_)
  ·have e7:N=1+dr wn (aL W).toNat:=by
    have:(N:Int)=((1+dr wn (aL W).toNat:Nat):Int):=by simpa using f
    omega
   rw[if_pos ⟨hw,e7⟩] at h;refine ao.cN (x:=(aK p,n,W,aL W,0,false)) b5 rfl rfl ?_;refine au λH6 z6 r6 C=>?_;have:=O.mod.size;refine h u H6 M.size ⟨⟨n,W,0,false⟩,wn,0,none,[]⟩ (U.ext C) ⟨O.mod.trans' C λb _ q=>q.elim,O.own⟩ rfl ⟨r6,aJ.nil _ _⟩ (by omega) λq=>by have:=U.lt _ q;omega
  ·have e7:¬(((wn:Nat):Int)<=528482304/\N=1+dr wn (aL W).toNat):=λq=>by
    rw[q.2] at f;simp at f
   rw[if_neg e7] at a;exact a u M U O rfl
 ·have hw:¬w<=528482304:=by simpa using f
  rw[if_neg (λq=>hw q.1)] at a;exact a u M U O rfl
end
section
variable {p:Pl}{r:RR}{n:ByteArray}{W:Nat}{rs:List (List Int)}{q:Nat}
end
section
open Go.MapKept
section
variable {s:Pl}{w:RW}
theorem Pl.C0 (r:Pl×Int)(h:Int):(Pl.leave r h).1.d=r.1.d:=by
 unfold Pl.leave;split
 ·exact Pl.Dg _ _
 ·rfl
end
section
variable {H A:aa}{k p dp:Nat}{s:Pl}{w:RW}{n:ByteArray}{W:Int}
variable {X:Nat->Prop}{r:RR}
end
end
