/-
 Ground, seventh text: memory that reads as lists, what a piece of code may have written, and the laws of the memory operations in these words.
-/
import Derived.Carry
import Derived.Deep.Slices
import Derived.DeepKeys5
import Derived.LaidHandle
import Derived.LaidLaws
import Derived.LaidMore
import Derived.Laws.CopyRow
import Derived.Laws.IdiomCopy
import Derived.MakeChecks
import Derived.OpenShut
import Derived.ProofKit
import Derived.SevenTiedAt
import Derived.Shelf.SlSortCmp.NoneTotal
import Derived.Shelf.SortM.Plain
import Derived.Shelf.SortM.SortNone
import Derived.Stop.Joined
import Derived.Test.YtmkbhnholcaghaaGreatDoorCards
import Derived.Test.YtmkbhnholcaghaaGreatDoorRows
import Derived.Test.YtmkbhnholcaghaaGreatDoorTie
import Derived.Test.YtmkbhnholcaghaaGreatDoorJ2
open Array renaming getElem?_eq_some_iff->QR,getElem?_eq_getElem->Rn,filter->Ry,getElem?_setIfInBounds_ne->Sa,length_toList->Td,mem_filter->Tt,getElem?_append_left->TS,getElem?_modify->TX,size_append->UW,eraseIdxIfInBounds->U8,eq_empty_of_size_eq_zero->VF,getElem?_eq_none->VM,toList_append->Wo,mem_append->WO,isEmpty_iff_size_eq_zero->W4,toList_push->XH,all_toList->XT,mem_of_getElem?->Ym,find?_toList->YG,map->YH,extract_size->YL,isEmpty_iff->YX,toList_inj->Za,size_map->Zx,mem_map->ZT,isEmpty->ZU
open BitVec renaming ofInt->SX,toNat_ofNat->Tr,ofNat->Uw,ofInt_natCast->U3,xor_assoc->U9,toNat_ushiftRight->Va,allOnes->V5,getLsbD_ushiftRight->Wm,shiftRight_add->WR,ushiftRight_xor_distrib->W6,getLsbD_and->Xt,xor_comm->Yb,eq_of_toNat_eq->Yo,getLsbD_xor->YI,ofNat_toNat->YJ,setWidth_eq->YK,toNat_xor->Zb
open Bool renaming and_eq_true->QY,false_eq_true->SL,true_and->WI
open ByteArray renaming empty->Tn,ext->Xz
open Go.Addr renaming add->Ru
open Go.Builtin renaming append_->QM,delete_->Sj,copy_->Wf,firstCells->WQ,lenOf->Y9
open Go.ByteArray renaming toList_eq->VN
open Go.DataW renaming TrodAll->Wg
open Go.DataW.agg renaming inj->acB
open Go.DataW.lit renaming injEq->acu
open Go.Instr renaming storeAt->Q3,buildSlice->R2,lookup->Sd,entry->Sr,makeSlice->SK,next->SO,range->SS,mapUpdate->SZ,sureAddr->Te,fill->TF,checkKey->WC,findKey->WN
open Go.IntKind renaming i64->QI,u8->RE,u32->Ss,wrap_i64->Yy,signed->YY,wrap->Zo,bits->Zp
open Go.MakeChecks renaming laidMetH_plain->ZE
open Go.MapKept renaming run_getObj_map->SG,run_setObj_map->Ty
open Go.Obj renaming mapIter->Zy
open Go.Program renaming keyLits->Xw
open Go.Proofs.Any renaming slices_SortFunc_total->YT,slices_SortFunc->Zv
open Go.Proofs.AnyF renaming slices_SortFunc_none->UP
open Go.Proofs.SlLaysF renaming n6->Wi
open Go.Proofs.SlLaysM renaming n6->abo,n5->abp
open Go.Proofs.Tryz renaming prog->QH,underlying3->TQ,underlying9->TR,zeroValue3->T3,zeroValue9->T7,underlying223->Ui,underlying249->Uj,underlying250->Uk,underlying186->Ul,underlying256->Um,underlying278->Un,underlying282->Uo,underlying303->Up,underlying304->Uq,sizeOf3->Uu,sizeOf9->Uv,zeroValue223->Uy,zeroValue249->Uz,zeroValue250->UA,zeroValue186->UB,zeroValue256->UC,underlying44->UD,zeroValue278->UE,zeroValue282->UF,zeroValue303->UG,zeroValue304->UH,isAgg3->UN,isAgg9->UO,underlying0->UQ,underlying4->UR,underlying5->US,zeroValue44->UT,zeroValue0->U4,zeroValue4->U5,zeroValue5->U6,sizeOf223->Vb,sizeOf249->Vc,sizeOf250->Vd,sizeOf186->Ve,sizeOf256->Vf,sizeOf278->Vg,sizeOf282->Vh,sizeOf303->Vi,sizeOf304->Vj,isAgg223->Vt,isAgg249->Vu,isAgg250->Vv,isAgg186->Vw,isAgg256->Vx,sizeOf44->Vy,isAgg278->Vz,isAgg282->VA,isAgg303->VB,isAgg304->VC,func152->VO,func199->VP,func200->VQ,func231->VR,func232->VS,sizeOf0->VT,sizeOf4->VU,sizeOf5->VV,isAgg44->VW,isAgg0->V6,isAgg4->V7,isAgg5->V8,underlying30->Xu,underlying61->Xv,zeroValue30->XB,zeroValue61->XC,sizeOf30->XZ,sizeOf61->X3,isAgg30->Yg,isAgg61->Yh,underlying218->ZF,underlying245->ZG,zeroValue218->ZK,zeroValue245->ZL,underlying34->ZM,underlying40->ZN,zeroValue34->ZV,zeroValue40->ZW,sizeOf218->Z8,sizeOf170->Z9,sizeOf245->aaa,isAgg218->aac,isAgg170->aad,isAgg245->aae,sizeOf34->aaf,sizeOf22->aag,sizeOf40->aah,func187->aak,func229->aal,func255->aam,func256->aan,func257->aao,func258->aap,func259->aaq,func260->aar,func261->aas,func262->aat,func274->aau,func275->aav,func276->aaw,func280->aax,func151->aay,func191->aaz,func192->aaA,func193->aaB,func194->aaC,func195->aaD,func196->aaE,func197->aaF,func198->aaG,func230->aaH,func233->aaI,func234->aaJ,func263->aaK,isAgg34->aaL,isAgg22->aaM,isAgg40->aaN,func156->aaO,func203->aaP,func235->aaQ,func236->aaR,func237->aaS,func238->aaT,func239->aaU,func240->aaV,func241->aaW,func242->aaX,func243->aaY,func264->aaZ,func265->aa0,func266->aa1,func267->aa2,func277->aa3,func107->aa4,func158->aa5,func204->aa6,func205->aa7,func206->aa8,func207->aa9,func208->aba,func209->abb,func159->abc,func210->abd,func211->abe,func244->abf,func245->abg,func246->abh,func212->abi,func268->abj,func94->abl,f187->abt,f229->abu,f255->abv,f256->abw,f257->abx,f258->aby,f259->abz,f260->abA,f261->abB,f262->abC,f274->abD,f275->abE,f276->abF,f280->abG,f151->abH,f191->abI,f192->abJ,f193->abK,f194->abL,f195->abM,f196->abN,f197->abO,f198->abP,f230->abQ,f233->abR,f234->abS,f263->abT,f156->abU,f203->abV,f235->abW,f236->abX,f237->abY,f238->abZ,f239->ab0,f240->ab1,f241->ab2,f242->ab3,f243->ab4,f264->ab5,f265->ab6,f266->ab7,f267->ab8,f277->ab9,f107->aca,f158->acb,f204->acd,f205->ace,f206->acf,f207->acg,f208->ach,f209->aci,f159->acj,f210->ack,f211->acm,f244->acn,f245->aco,f246->acp,f212->acq,f268->acr,f94->acv
open Go.Result renaming andThen_ok->Rl,andThen->SR
open Go.Sem renaming run_bind->Rk,run_pure->RN,run->Sn
open Go.Shelf renaming Ren->XU
open Go.Sort renaming putCells->Tu,putRow->Ur,grow->UI,ahead->UU,mapBlock->Vk,Holds->XD
open Go.Value renaming int->QT,bool->WH,tuple->Xn,formed->Zq,agg->Z7
open Go.Value.int renaming injEq->VI
open Go.Value.slice renaming injEq->Q2
open Go.WideMaps renaming KeyLaw->VH
open Go.World renaming setRow->TK
open Iff renaming rfl->V4
open Int renaming toNat_natCast->QP,le_refl->TG,fdiv_eq_ediv_of_nonneg->Wn,pow_nonneg->ZD
open List renaming getElem?_eq_some_iff->QJ,getElem?_eq_getElem->QK,mem_of_getElem?->QL,take_succ_eq_append_getElem->QO,mem_append->QQ,take_of_length_le->QS,mem_iff_getElem?->QU,getElem?_map->QV,mem_map->QW,mem_cons->QX,mem_singleton->Q1,replicate->Q6,map_cons->Q7,mem_cons_of_mem->Q8,mem_cons_self->Q9,eq_nil_of_length_eq_zero->Ra,getElem_mem->Re,getElem?_append_left->Rf,length_map->Rg,length_append->Ri,map_append->Rm,length_take->Ro,length_cons->Rr,drop_eq_getElem_cons->Rw,getElem?_set->Rx,flatMap_cons->RC,append_assoc->RD,getElem?_take->RF,mergeSort_perm->RG,getElem?_append_right->RK,drop_of_length_le->RL,sum_cons->RS,getElem?_cons_succ->RV,getD->RY,pairwise_cons->R0,map_map->R8,map_set->R9,mem_of_mem_eraseIdx->Se,getElem?_drop->Si,mem_flatMap->Sm,ext_getElem?->Sy,nodup_append->Sz,pairwise_iff_getElem->SJ,findIdx?_eq_some_iff_getElem->SM,length_singleton->SQ,perm_ext_iff_of_nodup->SU,length_eraseIdx_of_lt->SV,nil_append->SY,filter_cons->S0,any_eq_true->S9,getElem?_eraseIdx->Ta,isEmpty_iff->Tb,findIdx?_eq_none_iff->Tc,size_toArray->Tf,getElem?_eq_none->Th,take_append_drop->Tj,append_nil->Tl,nodup_cons->To,set_cons_zero->Tq,foldl_cons->Tx,mem_eraseIdx_iff_getElem?->Tz,map_nil->TD,mem_map_of_mem->TN,length_modify->T1,take_succ_cons->Ue,filter_sublist->Uf,modify_succ_cons->UM,getElem?_inj->UX,getElem?_cons_zero->Vs,set_cons_succ->VG,findIdx?_cons->VJ,drop_append_of_le_length->VX,take_left->V2,set_append_right->V3,singleton_append->V9,modify_zero_cons->Wa,mem_append_left->Wh,find?_cons->Wt,length_nil->WT,getElem?_modify->W5,take_zero->Xm,take_length_add_append->Xs,all_eq_false->XI,eraseIdx_sublist->Yn,mem_append_right->Yp,pairwise_filter->Ys,take_set->Yu,drop_succ_cons->Yz,perm_middle->Zc,nodup_nil->Zz
open List.Nodup renaming length_le_of_subset->TA
open List.Pairwise renaming nil->UY
open List.Sublist renaming refl->XJ
open Nat renaming le_refl->QN,le_trans->QZ,eq_of_beq_eq_true->Q0,zero_le->Q5,beq->Rh,mul_le_mul_right->Rq,mul_one->Rz,lt_or_ge->RA,le_succ->RB,succ_mul->RQ,zero_add->R3,lt_of_lt_of_le->Sk,blt->SF,le_add_right->SP,min_eq_left->TL,add_mul->T8,succ_le_of_lt->Ub,mod_eq_of_lt->Uh,le_of_ble_eq_true->UK,mod_lt->U1,shiftRight_eq_div_pow->U2,reduceAdd->Wl,add_comm->WW,add_assoc->Xy,zero_mul->YF,xor->YS,div->ZA,mul->ZB,mod->ZC
open Option renaming map_eq_some_iff->TP
open Option.some renaming inj->Rc,injEq->RH
open Prod renaming fst->Xo,snd->XV
open Prod.mk renaming injEq->RJ
open UInt8 renaming ofNat->Rv,toNat_inj->Tp,toNat_ofNat'->TY
open Go renaming Value->gp,TypeId->ic,MapEntry->nW,Addr->hY,Program->hQ,World->gb,IntKind->mi,TypeDesc->nH,TypeInfo->pa,DataW->pb
open Go.Proofs.YtmkbhnholcaghaaGreatDoor renaming ld->pc,st->pw,gh->p6,dE->qk,lX->sc,cN->sy
namespace Go.Proofs.YtmkbhnholcaghaaGreatDoor
structure Mod (F:Nat->Prop)(H H':aa):Prop where
 size:H.size<=H'.size
 same:∀b,b<H.size->¬F b->H'[b]?=H[b]?
abbrev Ext (H H':aa):Prop:=Mod (λ_=>False) H H'
theorem Mod.refl (F:Nat->Prop)(H:aa):Mod F H H:=⟨QN _,λ_ _ _=>rfl⟩
theorem Mod.mono {F G:Nat->Prop}{H H':aa}(h:Mod F H H')(hs:∀b,b<H.size->F b->G b):Mod G H H':=⟨h.size,λb a c=>h.same b a λd=>c (hs b a d)⟩
theorem Mod.trans {F:Nat->Prop}{A B C:aa}(h:Mod F A B)(k:Mod F B C):Mod F A C:=
 ⟨QZ h.size k.size,λb a c=>(k.same b (Sk a h.size) c).trans (h.same b a c)⟩
theorem Mod.trans' {F G:Nat->Prop}{A B C:aa}(h:Mod F A B)(k:Mod G B C)(d:∀b,b<A.size->G b->F b):Mod F A C:=
 ⟨QZ h.size k.size,λb a c=>(k.same b (Sk a h.size) λe=>c (d b a e)).trans (h.same b a c)⟩
theorem Mod.ext {F:Nat->Prop}{A B:aa}(h:Mod F A B)(a:∀b,F b->A.size<=b):Ext A B:=⟨h.size,λb c _=>h.same b c λh1=>by have:=a b h1;omega⟩
theorem Ext.mod {F:Nat->Prop}{A B:aa}(h:Ext A B):Mod F A B:=⟨h.size,λb a _=>h.same b a id⟩
theorem Mod.push (F:Nat->Prop)(H:aa)(o:Obj):Mod F H (H.push o):=
 ⟨by simp,λb a _=>by rw[Array.getElem?_push,if_neg (by omega)]⟩
theorem iS (H:aa)(a:hY)(v:gp):(xR H a v).size=H.size:=by simp[xR]
theorem KI {H:aa}{a:hY}{v:gp}{b:Nat}(h:b≠a.block):(xR H a v)[b]?=H[b]?:=by
 unfold xR;rw[TX,if_neg (Ne.symm h)]
theorem pJ {H:aa}{a:hY}{v:gp}{c:Array gp}{t:ic}{fz:Nat×Nat}(h:H[a.block]?=some (.cells c t fz))(hs:a.spot=none):
  (xR H a v)[a.block]?=some (.cells (c.setIfInBounds a.off v) t fz):=by
 unfold xR;rw[TX,if_pos rfl,h];simp[hs]
theorem Mod.set {F:Nat->Prop}{H:aa}{a:hY}{v:gp}(h:F a.block):Mod F H (xR H a v):=
 ⟨by rw[iS];exact QN _,λb _ c=>KI (by intro e;subst e;exact c h)⟩
theorem ib {H H':aa}{a:hY}(h:H'[a.block]?=H[a.block]?):dh H' a=dh H a:=by unfold dh;rw[h]
theorem j6 {H:aa}{a:hY}{v:gp}(h:dh H a=some v):a.block<H.size:=by
 unfold dh at h;rcases RA a.block H.size with h1|h1
 ·exact h1
 ·rw[VM h1] at h;cases h
theorem Mod.cell {F:Nat->Prop}{H H':aa}(hm:Mod F H H'){a:hY}{v:gp}(h:dh H a=some v)(b:¬F a.block):dh H' a=some v:=
 (ib (hm.same _ (j6 h) b)).trans h
theorem cC {H:aa}{b o:Nat}{c:Array gp}{t:ic}{fz:Nat×Nat}{v:gp}(h:H[b]?=some (.cells c t fz))(a:c[o]?=some v):dh H ⟨b,o,none⟩=some v:=by
 unfold dh;simp[h,a]
theorem dJ {H:aa}{b o:Nat}{c:Array gp}{t:ic}(h:H[b]?=some (.cells c t (0,0))):qe H ⟨b,o,none⟩=false:=by
 unfold qe;simp[h]
theorem dM (a:hY)(n:Nat):(a.add n).block=a.block:=by unfold Ru;split<;>rfl
theorem add_zero' (a:hY):a.add 0=a:=rfl
theorem add_lit (b o n:Nat):(⟨b,o,none⟩:hY).add n=⟨b,o+n,none⟩:=by
 unfold Ru;split
 ·rename_i h;subst h;rfl
 ·rfl
theorem add_add (a:hY)(m n:Nat):(a.add m).add n=a.add (m+n):=by
 unfold Ru;by_cases hm:m=0
 ·subst hm;simp
 ·by_cases b:n=0
  ·subst b;simp[hm]
  ·simp[hm,b,Xy]
def Reads (H:aa)(a:Option hY)(vs:List gp):Prop:=∀i v,vs[i]?=some v->∃ad,a=some ad/\dh H (ad.add i)=some v
theorem Reads.nil (H:aa)(a:Option hY):Reads H a []:=λi v h=>by simp at h
theorem Reads.mod {F:Nat->Prop}{H H':aa}{a:Option hY}{vs:List gp}(h:Reads H a vs)(hm:Mod F H H')(c:∀ad,a=some ad->¬F ad.block):Reads H' a vs:=by
 intro i v d;obtain⟨ad,b,e⟩:=h i v d;exact⟨ad,b,hm.cell e (by rw[dM];exact c ad b)⟩
theorem Reads.ext {H H':aa}{a:Option hY}{vs:List gp}(h:Reads H a vs)(hm:Ext H H'):Reads H' a vs:=h.mod hm (λ_ _=>id)
theorem Reads.at {H:aa}{a:Option hY}{vs:List gp}(h:Reads H a vs){i:Nat}(hi:i<vs.length):∃ad,a=some ad/\dh H (ad.add i)=some vs[i]:=
 h i _ (QK hi)
theorem Reads.take {H:aa}{a:Option hY}{vs:List gp}(h:Reads H a vs)(n:Nat):Reads H a (vs.take n):=λi v b=>h i v (by
 rw[RF] at b;split at b
 ·exact b
 ·cases b)
structure Ints (k:mi)(H:aa)(s:Sl)(l:List Int):Prop where
 len:s.n=l.length
 reads:Reads H s.a (l.map (QT k))
theorem Ints.mod {F:Nat->Prop}{k:mi}{H H':aa}{s:Sl}{l:List Int}(h:Ints k H s l)(hm:Mod F H H')(a:∀ad,s.a=some ad->¬F ad.block):Ints k H' s l:=⟨h.len,h.reads.mod hm a⟩
theorem Ints.ext {k:mi}{H H':aa}{s:Sl}{l:List Int}(h:Ints k H s l)(hm:Ext H H'):Ints k H' s l:=⟨h.len,h.reads.ext hm⟩
theorem Ints.at {k:mi}{H:aa}{s:Sl}{l:List Int}(h:Ints k H s l){i:Nat}(hi:i<l.length):∃ad,s.a=some ad/\dh H (ad.add i)=some (.int k l[i]):=by
 obtain⟨ad,h1,a⟩:=h.reads.at (i:=i) (by simpa using hi);exact⟨ad,h1,by simpa using a⟩
theorem Ints.ld {k:mi}{H:aa}{s:Sl}{l:List Int}(h:Ints k H s l){i:Int}(b:0<=i)(h1:i<l.length){K:hY->Int->Prop}(c:∀ad,s.a=some ad->K ad (l.getD i.toNat 0)):
  ae s.a λa=>(0<=i/\i<(s.n:Int))/\ld (ab k) H (a.add (i.toNat*1)) λx=>K a x:=by
 have hi:i.toNat<l.length:=by omega
 obtain⟨ad,e,d⟩:=h.at hi;refine aZ ad e ⟨⟨b,by rw[h.len];omega⟩,l.getD i.toNat 0,?_,c ad e⟩;rw[Rz,d];simp[RY,QK hi]
def aO (H:aa)(base:Nat)(e:ic)(size:Nat)(s:Sl)(xs:List gp):Prop:=
 xs.length=s.n*size/\
 ((s.v=.slice none 0 0/\s.n=0)\/
  ∃g cap cur,s.v=.slice (some ⟨g,0,none⟩) s.n cap/\base<=g/\H[g]?=some (.cells cur e (0,0))/\s.n<=cap/\cap<=maxLen/\cur.size=cap*size/\cur.toList.take (s.n*size)=xs)
def ai (s:Sl)(b:Nat):Prop:=∃ad,s.a=some ad/\ad.block=b
theorem aO.nil (H:aa)(base:Nat)(e:ic)(size:Nat):aO H base e size (Sl.mk none 0 0) []:=⟨by simp,.inl ⟨rfl,rfl⟩⟩
theorem aO.block {H:aa}{base:Nat}{e:ic}{size:Nat}{s:Sl}{xs:List gp}(h:aO H base e size s xs):∀b,ai s b->base<=b/\b<H.size:=by
 rintro b ⟨ad,a,rfl⟩;rcases h.2 with ⟨c,_⟩|⟨g,cap,cur,c,f,d,_⟩
 ·cases s;simp only[Sl.v,Q2] at c a;rw[c.1] at a;cases a
 ·cases s;simp only[Sl.v,Q2] at c a;rw[c.1] at a;cases a;refine⟨f,?_⟩;rcases RA g H.size with h1|h1
  ·exact h1
  ·rw[VM h1] at d;cases d
theorem aO.mod {F:Nat->Prop}{H H':aa}{base:Nat}{e:ic}{size:Nat}{s:Sl}{xs:List gp}(h:aO H base e size s xs)(hm:Mod F H H')(c:∀b,ai s b->¬F b):aO H' base e size s xs:=by
 refine⟨h.1,h.2.imp id ?_⟩;rintro⟨g,cap,cur,a,d,f,i⟩;refine⟨g,cap,cur,a,d,?_,i⟩;have hs:ai s g:=by
  cases s;simp only[Sl.v,Q2] at a;exact⟨_,a.1,rfl⟩
 exact(hm.same g (h.block g hs).2 (c g hs)).trans f
theorem aO.ext {H H':aa}{base:Nat}{e:ic}{size:Nat}{s:Sl}{xs:List gp}(h:aO H base e size s xs)(hm:Ext H H'):aO H' base e size s xs:=h.mod hm (λ_ _=>id)
theorem aO.reads {H:aa}{base:Nat}{e:ic}{size:Nat}{s:Sl}{xs:List gp}(h:aO H base e size s xs):Reads H s.a xs:=by
 intro i v a;rcases h.2 with ⟨_,d⟩|⟨g,cap,cur,b,j,f,k,l,m,c⟩
 ·have:=h.1;rw[d,YF] at this;rw[List.length_eq_zero_iff.1 this] at a;simp at a
 ·cases s;simp only[Sl.v,Q2] at b c;refine⟨_,b.1,?_⟩;rw[add_lit,R3];refine cC f ?_;rw[<-c,RF] at a;split at a
  ·simpa using a
  ·cases a
theorem aO.ints {k:mi}{H:aa}{base:Nat}{e:ic}{s:Sl}{l:List Int}(h:aO H base e 1 s (l.map (QT k))):Ints k H s l:=
 ⟨by have:=h.1;simp at this;omega,h.reads⟩
theorem aO.fresh {H:aa}{base:Nat}{e:ic}{size n cap:Nat}{cur:Array gp}{xs:List gp}(a:base<=H.size)(b:n<=cap)(c:cap<=maxLen)(hs:cur.size=cap*size)(d:xs.length=n*size)
  (f:cur.toList.take (n*size)=xs):aO (H.push (.cells cur e)) base e size (Sl.mk (some ⟨H.size,0,none⟩) n cap) xs:=
 ⟨d,.inr ⟨H.size,cap,cur,rfl,a,by simp,b,c,hs,f⟩⟩
theorem oo {P:hQ}{t ty e:ic}{inf:pa}{z:gp}{H:aa}{base:Nat}{s x:Sl}{xs ws:List gp}{K:Sl->aa->Prop}
  (J:P.underlying t=some (.slice e)) (hi:P.info? e=some inf) (X:inf.zero=some z) (A:z.cells.size=inf.size) (O:0<inf.size)
  (a:aO H base e inf.size s xs) (hl:ws.length=x.n*inf.size) (Y:Reads H x.a ws) (h1:∀u∈ws,u.oneCell'=true)
  (hn:s.n+x.n<=4611686018427387904) (i:(s.n+x.n)*inf.bytes<=140737488355328) (l:base<=H.size)
  (L:∀(s':Sl) (H':aa),s'.n=s.n+x.n->aO H' base e inf.size s' (xs++ws)->Mod (ai s) H H'->(∀b,ai s' b->ai s b\/H.size<=b)->(s'.a=none↔s.a=none/\x.n=0)->K s' H'):
  bf aq P (QM #[t,t] ty #[s.v,x.v]) H K:=by
 intro w hw;subst hw;obtain⟨M,d,k⟩:=s;obtain⟨Z,c,N⟩:=x;simp only[Sl.v] at*;have Q:d+c<=maxLen:=by unfold maxLen;omega
 by_cases B:c=0
 ·subst B;have R:ws=[]:=Ra (by simpa using hl);subst R;have C:d<=k:=by
   rcases a.2 with ⟨m,e2⟩|⟨g,cap,cur,m,p,S,h4,_⟩
   ·simp only[Sl.v,Q2] at m;simp only at e2;omega
   ·simp only[Sl.v,Q2] at m;simp only at h4;omega
  have v:(QM #[t,t] ty #[.slice M d k,.slice Z 0 N]).run P w=.ok (.slice M d k) w:=by
   cases Z<;>cases M<;>simp[QM,run_underlying J,sizeOf,typeInfo,hi,Y9,WQ,C,loadCells,loadCellsFrom,storeCells]
  refine⟨_,w,v,⟨⟨M,d,k⟩,rfl,L _ _ rfl (by simpa using a) (.refl _ _) (λb p=>.inl p) (by simp)⟩,.refl w⟩
 ·have D:0<ws.length:=by rw[hl];exact Nat.mul_pos (by omega) O
  obtain⟨ad,ea,_⟩:=Y.at D;subst ea;have f:∀j u,ws[j]?=some u->w.cell? (ad.add j)=some u:=λj u hu=>by
   obtain⟨n,m,T⟩:=Y j u hu;cases m;exact T
  have hlen:(xs++ws).length=(d+c)*inf.size:=by rw[Ri,a.1,hl,T8]
  rcases a.2 with ⟨m,e2⟩|⟨g,cap,cur,m,U,S,V,q,E,o⟩
  ·simp only[Sl.v,Q2] at m;obtain⟨rfl,rfl,rfl⟩:=m;have W:xs=[]:=Ra (by simpa using a.1);subst W;have v:=run_append_nil (P:=P) w t ty e inf z J hi X ad c N ws hl f (by omega) (by omega) (by simp only[R3] at i;omega);have y:=grownCap_ge w c 0 e;have q:grownCap w c 0 e<=maxLen:=grownCap_le_maxLen w c 0 e (by omega);refine⟨_,_,v,⟨⟨some ⟨w.heap.size,0,none⟩,c,grownCap w c 0 e⟩,rfl,L _ _ (by simp) ?_ (Mod.push _ _ _) (λb p=>.inr ?_) (by simp[B])⟩,(.of_le rfl (RB _))⟩
   ·refine aO.fresh l y q ?_ (by simpa using hlen) ?_
    ·simp only[UW,Tf,size_zeroCells,A,hl,<-T8];congr 1;omega
    ·simp only[Wo,SY,<-hl];exact V2
   ·obtain⟨n,r,F⟩:=p;cases r;have:w.heap.size=b:=F;omega
  ·simp only[Sl.v,Q2] at m;obtain⟨rfl,_,rfl⟩:=m;simp only at V q E o;by_cases h:d+c<=k
   ·have G:d*inf.size+ws.length<=cur.size:=by rw[hl,E,<-T8];exact Rq _ h
    have v:=run_append_room (P:=P) w t ty e inf J hi g d k cur S ad c N ws hl f h1 h G;refine⟨_,_,v,⟨⟨some ⟨g,0,none⟩,d+c,k⟩,rfl,L _ _ rfl ⟨hlen,.inr ⟨g,k,_,rfl,U,setRow_heap w g cur _ e _ S,h,q,?_,?_⟩⟩ ⟨by simp[TK],λb _ p=>setRow_other w g b _ (λr=>p ⟨_,rfl,r.symm⟩)⟩ (λb p=>.inl ?_) (by simp)⟩,(.of_le rfl (QN _))⟩
    ·simp only[Tf,Ri,Ro,List.length_drop,Td];omega
    ·simp only;rw[o,<-hlen];exact V2
    ·obtain⟨n,r,F⟩:=p;exact⟨n,r,F⟩
   ·have holds:∀j u,xs[j]?=some u->w.cell? ((⟨g,0,none⟩:hY).add j)=some u:=λj u hu=>by
     obtain⟨n,r,T⟩:=a.reads j u hu;cases r;exact T
    have v:=run_append_grow (P:=P) w t ty e inf z J hi X ⟨g,0,none⟩ d k xs a.1 holds ad c N ws hl f (by omega) (by omega) (growslice_fits (by omega) i);have y:=grownCap_ge w (d+c) k e;have I:grownCap w (d+c) k e<=maxLen:=grownCap_le_maxLen w (d+c) k e Q;refine⟨_,_,v,⟨⟨some ⟨w.heap.size,0,none⟩,d+c,grownCap w (d+c) k e⟩,rfl,L _ _ rfl ?_ (Mod.push _ _ _) (λb p=>.inr ?_) (by simp)⟩,(.of_le rfl (RB _))⟩
    ·refine aO.fresh l y I ?_ hlen ?_
     ·simp only[UW,Tf,size_zeroCells,A,a.1,hl,<-T8];congr 1;omega
     ·simp only[Wo,RD];rw[<-RD,<-hlen];exact V2
    ·obtain⟨n,r,F⟩:=p;cases r;have:w.heap.size=b:=F;omega
theorem oH {P:hQ}{t ty e:ic}{inf:pa}{z:gp}{H:aa}{base:Nat}{s x:Sl}{xs ws:List gp}{K:Sl->aa->Prop}
  (h:P.underlying t=some (.slice e)) (hi:P.info? e=some inf) (i:inf.zero=some z) (f:z.cells.size=inf.size) (g:0<inf.size)
  (d:aO H base e inf.size s xs) (hl:ws.length=x.n*inf.size) (j:Reads H x.a ws) (h1:∀u∈ws,u.oneCell'=true)
  (l:s.n+x.n<=1099511627776) (a:(s.n+x.n)*inf.bytes<=140737488355328) (c:base<=H.size)
  (k:∀(s':Sl) (H':aa),s'.n=s.n+x.n->aO H' base e inf.size s' (xs++ws)->Mod (ai s) H H'->(∀b,ai s' b->ai s b\/H.size<=b)->(s'.a=none↔s.a=none/\x.n=0)->K s' H'):
  bf aq P (QM #[t,t] ty #[s.v,x.v]) H K:=
 oo h hi i f g d hl j h1 (by omega) a c k
theorem Ga {P:hQ}{t e:ic}{inf:pa}{z:gp}{H:aa}{f g:mi}{l c:Int}{K:Sl->aa->Prop}
  (h:P.underlying t=some (.slice e)) (hi:P.info? e=some inf) (i:inf.zero=some z) (j:0<=l) (b:l<=c) (a:(inf.bytes:Int)*c<=281474976710656) (d:c<=9223372036854775807)
  (k:K ⟨some ⟨H.size,0,none⟩,l.toNat,c.toNat⟩ (H.push (.cells (madeCells z.cells (c.toNat*inf.size)) e))):
  bf aq P (SK t (.int f l) (.int g c)) H K:=by
 intro w hw;subst hw;exact⟨_,_,run_make (P:=P) w t e inf z h hi i f g l c j b a d,⟨⟨some ⟨w.heap.size,0,none⟩,l.toNat,c.toNat⟩,rfl,k⟩,(.of_le rfl (QN _))⟩
def El (P:hQ)(t e:ic)(bytes:Nat)(z:gp):Prop:=∃inf:pa,P.underlying t=some (.slice e)/\P.info? e=some inf/\inf.zero=some z/\z.cells=#[z]/\inf.size=1/\inf.bytes=bytes
theorem El.push {P:hQ}{t ty e:ic}{bytes:Nat}{z:gp}(h:El P t e bytes z){H:aa}{base:Nat}{s:Sl}{xs:List gp}{v:gp}{K:Sl->aa->Prop}
  (f:aO H base e 1 s xs) (h1:v.oneCell'=true) (o:s.n+1<=1099511627776) (g:(s.n+1)*bytes<=140737488355328) (j:base<=H.size)
  (q:∀(s':Sl) (H':aa),s'.n=s.n+1->aO H' base e 1 s' (xs++[v])->Mod (ai s) H H'->(∀b,ai s' b->ai s b\/H.size<=b)->s'.a≠none->K s' H'):
  aG H #[v] e λp H1=>bf aq P (QM #[t,t] ty #[s.v,.slice (some p) 1 1]) H1 K:=by
 obtain⟨inf,r,hi,w,k,d,l⟩:=h;have a:Mod (λ_=>False) H (H.push (.cells #[v] e)):=Mod.push _ _ _;refine oH (base:=base) (s:=s) (x:=⟨some ⟨H.size,0,none⟩,1,1⟩) (xs:=xs) (ws:=[v]) r hi w (by rw[k,d];rfl) (by omega) (by rw[d];exact f.ext a) (by simp[d]) ?_ (by simpa using h1) (by simpa using o) (by rw[l];exact g) (by simp;omega) ?_
 ·intro i u hu;cases i with
  |zero=>simp at hu;subst hu;exact⟨_,rfl,cC (c:=#[v]) (t:=e) (fz:=(0,0)) (by simp) (by simp)⟩
  |succ i=>simp at hu
 ·intro s' H' y n A B C;refine q s' H' y (by rw[d] at n;exact n) ((Ext.mod a).trans A) (λb g=>?_) (λD=>by have:=(C.1 D).2;simp at this);rcases B b g with m|m
  ·exact .inl m
  ·simp at m;exact .inr (by omega)
theorem El.append {P:hQ}{t ty e:ic}{bytes:Nat}{z:gp}(h:El P t e bytes z){H:aa}{base:Nat}{s x:Sl}{xs ws:List gp}{K:Sl->aa->Prop}
  (d:aO H base e 1 s xs) (hl:ws.length=x.n) (i:Reads H x.a ws) (h1:∀u∈ws,u.oneCell'=true)
  (j:s.n+x.n<=1099511627776) (k:(s.n+x.n)*bytes<=140737488355328) (c:base<=H.size)
  (l:∀(s':Sl) (H':aa),s'.n=s.n+x.n->aO H' base e 1 s' (xs++ws)->Mod (ai s) H H'->(∀b,ai s' b->ai s b\/H.size<=b)->(s'.a=none↔s.a=none/\x.n=0)->K s' H'):
  bf aq P (QM #[t,t] ty #[s.v,x.v]) H K:=by
 obtain⟨inf,m,hi,n,f,a,g⟩:=h;exact oH m hi n (by rw[f,a];rfl) (by omega) (by rw[a];exact d) (by rw[a];omega) i h1 j (by rw[g];exact k) c (by rw[a];exact l)
theorem El.wV {P:hQ}{t ty e:ic}{bytes:Nat}{z:gp}(h:El P t e bytes z){H:aa}{base:Nat}{s x:Sl}{xs ws:List gp}{K:Sl->aa->Prop}
  (d:aO H base e 1 s xs) (hl:ws.length=x.n) (i:Reads H x.a ws) (h1:∀u∈ws,u.oneCell'=true)
  (j:s.n+x.n<=4611686018427387904) (k:(s.n+x.n)*bytes<=140737488355328) (c:base<=H.size)
  (l:∀(s':Sl) (H':aa),s'.n=s.n+x.n->aO H' base e 1 s' (xs++ws)->Mod (ai s) H H'->(∀b,ai s' b->ai s b\/H.size<=b)->(s'.a=none↔s.a=none/\x.n=0)->K s' H'):
  bf aq P (QM #[t,t] ty #[s.v,x.v]) H K:=by
 obtain⟨inf,m,hi,n,f,a,g⟩:=h;exact oo m hi n (by rw[f,a];rfl) (by omega) (by rw[a];exact d) (by rw[a];omega) i h1 j (by rw[g];exact k) c (by rw[a];exact l)
theorem oq (z:gp)(a:z.cells=#[z]) (n:Nat):(madeCells z.cells n).toList=Q6 n z:=by
 rw[a];apply Sy;intro i;simp only[madeCells,Tf,SQ,Nat.mod_one,Array.toList_map,Array.toList_range,QV,List.getElem?_replicate];by_cases hi:i<n
 ·rw[List.getElem?_range hi];simp[hi]
 ·rw[Th (by simp;omega)];simp[hi]
theorem El.make {P:hQ}{t e:ic}{bytes:Nat}{z:gp}(h:El P t e bytes z){H:aa}{base:Nat}{m n:mi}{l c:Int}{K:Sl->aa->Prop}
  (o:0<=l) (g:l<=c) (i:(bytes:Int)*c<=281474976710656) (j:c<=9223372036854775807) (a:base<=H.size)
  (p:∀(s':Sl) (H':aa),s'.n=l.toNat->aO H' base e 1 s' (Q6 l.toNat z)->Ext H H'->(∀b,ai s' b->H.size<=b)->s'.a≠none->K s' H'):
  bf aq P (SK t (.int m l) (.int n c)) H K:=by
 obtain⟨inf,q,hi,r,d,f,k⟩:=h;refine Ga q hi r o g (by rw[k];exact i) j (p _ _ rfl ?_ (Mod.push _ _ _) (λb i=>?_) (by simp))
 ·refine aO.fresh a (by omega) (by unfold maxLen;omega) ?_ (by simp) ?_
  ·have:=congrArg List.length (oq z d (c.toNat*inf.size));simp at this;rw[this,f]
  ·rw[oq z d,f];simp;omega
 ·obtain⟨s,u,v⟩:=i;cases u;have:H.size=b:=v;omega
theorem aO.st {H:aa}{base:Nat}{e:ic}{s:Sl}{xs:List gp}{v:gp}{K:aa->Prop}(h:aO H base e 1 s xs){i:Int}(f:0<=i)(h1:i<(s.n:Int))(j:jJ v=true)
  (k:∀H',aO H' base e 1 s (xs.set i.toNat v)->Mod (ai s) H H'->H'.size=H.size->K H'):
  ae s.a λa=>(0<=i/\i<(s.n:Int))/\st H (a.add (i.toNat*1)) v K:=by
 have hlen:=h.1;rcases h.2 with ⟨b,q⟩|⟨g,cap,cur,b,l,c,m,n,o,p⟩
 ·omega
 ·have d:s.a=some ⟨g,0,none⟩:=by
   cases s;simp only[Sl.v,Q2] at b;exact b.1
  have hi:i.toNat<cur.size:=by omega
  refine aZ _ d ⟨⟨f,h1⟩,j,?_,?_,k _ ?_ (Mod.set ?_) (iS _ _ _)⟩
  ·rw[Rz,add_lit,R3];exact⟨_,cC c (Rn hi)⟩
  ·rw[Rz,add_lit];exact dJ c
  ·rw[Rz,add_lit,R3];refine⟨by simpa using hlen,.inr ⟨g,cap,cur.setIfInBounds i.toNat v,b,l,pJ (a:=⟨g,i.toNat,none⟩) c rfl,m,n,by simpa using o,?_⟩⟩;rw[<-p];simp[Yu]
  ·rw[dM];exact⟨_,d,rfl⟩
def Var (H:aa)(p:hY)(v:gp):Prop:=p.spot=none/\p.off=0/\∃t,H[p.block]?=some (.cells #[v] t (0,0))
theorem Var.cell {H:aa}{p:hY}{v:gp}(h:Var H p v):dh H p=some v:=by
 obtain⟨b,o,sp⟩:=p;obtain⟨h1,a,t,c⟩:=h;simp only at h1 a c;subst h1;subst a;exact cC c rfl
theorem Var.ld {c:fg}{H:aa}{p:hY}{x:c.α}{K:c.α->Prop}(h:Var H p (c.enc x))(a:K x):ld c H p K:=⟨x,h.cell,a⟩
theorem Var.lt {H:aa}{p:hY}{v:gp}(h:Var H p v):p.block<H.size:=j6 h.cell
theorem av {α:Type}{x0:α}{H:aa}{body:(α->aa->Prop)->α->aa->Prop}(n:Nat)(I:Nat->α->aa->Prop)(e:I 0 x0 H)
  (hs:∀k x H' next,k<=n->I k x H'->(k<n->∀a b,I (k+1) a b->next a b)->body next x H'):ay α x0 H body:=by
 refine⟨Nat,λk x H'=>k<=n/\I k x H',λk=>n - k,⟨0,Q5 _,e⟩,?_⟩;rintro k x H' ⟨hk,f⟩;exact hs k x H' _ hk f (λc a b d=>⟨k+1,⟨c,d⟩,by show n - (k+1)<n - k;omega⟩)
theorem wrap64 {x:Int}(a:-9223372036854775808<=x)(h1:x<=9223372036854775807):QI.wrap x=x:=by
 rw[Yy];omega
theorem aD (k:Nat)(h:k<4611686018427387904):QI.wrap ((k:Int)+1)=((k+1:Nat):Int):=by
 rw[wrap64 (by omega) (by omega)];omega
def Pk (P:hQ)(t e:ic)(bytes:Nat)(z:gp->Bool):Bool:=
 (match P.underlying t with|some (.slice a)=>Rh a e|_=>false)&&
 (match P.info? e with|some inf=>(match inf.zero with|some v=>z v&&Rh v.cells.size 1|none=>false)&&(Rh inf.size 1&&Rh inf.bytes bytes)|none=>false)
theorem CL {P:hQ}{t e:ic}{bytes:Nat}{z:gp}{zb:gp->Bool}(d:∀v,zb v=true->v=z)(c:z.cells=#[z]) (h:Pk P t e bytes zb=true):El P t e bytes z:=by
 unfold Pk at h;simp only[QY] at h;obtain⟨h1,a⟩:=h;split at h1
 ·rename_i j he;split at a
  ·rename_i inf hi;simp only[QY] at a;obtain⟨b,f,g⟩:=a;split at b
   ·rename_i v i;simp only[QY] at b;have:=Q0 h1;subst this;exact⟨inf,he,hi,by rw[i,d v b.1],c,Q0 f,Q0 g⟩
   ·cases b
  ·cases a
 ·cases h1
def tM (k:mi)(v:gp):Bool:=match v with|.int a n=>a==k&&decide (n=0)|_=>false
theorem ru {k:mi}(v:gp)(h:tM k v=true):v=.int k 0:=by
 unfold tM at h;split at h
 ·simp at h;rw[h.1,h.2]
 ·cases h
def FL (v:gp):Bool:=match v with|.slice none n c=>Rh n 0&&Rh c 0|_=>false
theorem Ge (v:gp)(h:FL v=true):v=.slice none 0 0:=by
 unfold FL at h;split at h
 ·simp at h;rw[h.1,h.2]
 ·cases h
theorem mu (a:Option hY)(c:Nat):cM a c 0 1=a:=by
 unfold cM;split
 ·rfl
 ·cases a<;>simp[add_zero']
theorem oa (k:mi)(l:List Int):∀u∈l.map (QT k),u.oneCell'=true:=by
 intro u hu;obtain⟨x,_,rfl⟩:=QW.1 hu;rfl
theorem aO.cap {H:aa}{base:Nat}{e:ic}{size:Nat}{s:Sl}{xs:List gp}(h:aO H base e size s xs):s.n<=s.c:=by
 rcases h.2 with ⟨a,c⟩|⟨g,cap,cur,a,d,f,b,i,j,k⟩
 ·omega
 ·cases s;simp only[Sl.v,Q2] at a;simp only at b ⊢;omega
def jX (H:aa)(p:hY)(cs:Array gp):Prop:=p.spot=none/\p.off=0/\∃t,H[p.block]?=some (.cells cs t (0,0))
theorem jX.cell {H:aa}{p:hY}{cs:Array gp}(h:jX H p cs){i:Nat}(hi:i<cs.size):dh H (p.add i)=some cs[i]:=by
 obtain⟨b,o,sp⟩:=p;obtain⟨h1,a,t,c⟩:=h;simp only at h1 a c;subst h1;subst a;rw[add_lit,R3];exact cC c (Rn hi)
theorem jX.lt {H:aa}{p:hY}{cs:Array gp}(h:jX H p cs):p.block<H.size:=by
 obtain⟨_,_,t,a⟩:=h;rcases RA p.block H.size with h1|h1
 ·exact h1
 ·rw[VM h1] at a;cases a
theorem jX.mod {F:Nat->Prop}{H H':aa}{p:hY}{cs:Array gp}(h:jX H p cs)(hm:Mod F H H')(a:¬F p.block):jX H' p cs:=by
 have hl:=h.lt;obtain⟨h1,b,t,c⟩:=h;exact⟨h1,b,t,(hm.same _ hl a).trans c⟩
theorem jX.cN {H:aa}{p:hY}{cs:Array gp}(h:jX H p cs){n:Nat}(a:cs.size=n){K:Array gp->Prop}(b:K cs):cN ku n H p K:=
 ⟨cs,⟨cs,rfl,a,λi hi=>by rw[h.cell (by omega),Rn (by omega)]⟩,b⟩
theorem jX.st {H:aa}{p:hY}{cs:Array gp}{v:gp}{K:aa->Prop}(h:jX H p cs){i:Nat}(hi:i<cs.size)(e:jJ v=true)
  (f:∀H',jX H' p (cs.setIfInBounds i v)->Mod (λb=>b=p.block) H H'->H'.size=H.size->K H'):st H (p.add i) v K:=by
 have g:=h.cell hi;obtain⟨b,o,sp⟩:=p;obtain⟨h1,d,t,c⟩:=h;simp only at h1 d c;subst h1;subst d;refine⟨e,⟨_,g⟩,?_,f _ ⟨rfl,rfl,t,?_⟩ (Mod.set (dM _ _)) (iS _ _ _)⟩
 ·rw[add_lit];exact dJ c
 ·rw[add_lit,R3];exact pJ (a:=⟨b,i,none⟩) c rfl
theorem uH {H:aa}{cs:Array gp}{t:ic}{K:hY->aa->Prop}(a:∀p H',p.block=H.size->H'.size=H.size+1->jX H' p cs->Ext H H'->K p H'):aG H cs t K:=
 a _ _ rfl (by simp) ⟨rfl,rfl,t,by simp⟩ (Mod.push _ _ _)
def nk (P:hQ)(ty:ic)(n:Nat):Bool:=match P.info? ty with|some i=>Rh i.size n|none=>false
theorem jX.iE {P:hQ}{ty:ic}{H:aa}{p:hY}{old cs:Array gp}{K:aa->Prop}(h:jX H p old)(hi:nk P ty cs.size=true)(f:old.size=cs.size)(h1:cs.all (·.oneCell')=true)
  (g:∀H',jX H' p cs->Mod (λb=>b=p.block) H H'->H'.size=H.size->K H'):jo P (Q3 ty (.pointer (some p)) (.agg cs)) H K:=by
 intro w hw;subst hw;obtain⟨b,o,sp⟩:=p;obtain⟨d,e,t,a⟩:=h;simp only at d e a;subst d;subst e;have c:(P.info? ty).map (·.size)=some cs.size:=by
  unfold nk at hi;split at hi
  ·rename_i i he;rw[he];simp[Q0 hi]
  ·cases hi
 have j:=run_storeVar_row (P:=P) w b t ty old cs a c f h1;refine⟨(),w.setRow b cs,?_,g _ ⟨rfl,rfl,t,setRow_heap w b old cs t _ a⟩ ⟨by simp,λk _ hk=>setRow_other w b k cs hk⟩ (by simp),(.of_le rfl (QN _))⟩;simp only[Q3,Te,Rk,RN,Rl,j]
theorem jX.reads {H:aa}{p:hY}{cs:Array gp}(h:jX H p cs):Reads H (some p) cs.toList:=by
 intro i v b;refine⟨p,rfl,?_⟩;have a:i<cs.size:=by have:=(QJ.1 b).1;simpa using this
 rw[h.cell a];rw[<-b];simp[a]
theorem aO.obj {H:aa}{base:Nat}{e:ic}{size:Nat}{s:Sl}{xs:List gp}(h:aO H base e size s xs):∀b,ai s b->∃cur,H[b]?=some (.cells cur e (0,0)):=by
 rintro b ⟨ad,a,rfl⟩;rcases h.2 with ⟨c,_⟩|⟨g,cap,cur,c,f,d,_⟩
 ·cases s;simp only[Sl.v,Q2] at c a;rw[c.1] at a;cases a
 ·cases s;simp only[Sl.v,Q2] at c a;rw[c.1] at a;cases a;exact⟨cur,d⟩
theorem aO.apart {H:aa}{base a:Nat}{e i:ic}{size c:Nat}{s s':Sl}{xs d:List gp}(h:aO H base e size s xs)(k:aO H a i c s' d)(f:e≠i):∀b,ai s b->¬ai s' b:=by
 intro b h1 j;obtain⟨c1,l⟩:=h.obj b h1;obtain⟨c2,g⟩:=k.obj b j;rw[l] at g;simp at g;exact f g.2
theorem aO.OP {H:aa}{base:Nat}{e:ic}{size:Nat}{s:Sl}{xs:List gp}(h:aO H base e size s xs)(a:s.a=none):s.n=0:=by
 rcases h.2 with ⟨_,c⟩|⟨g,cap,cur,b,_⟩
 ·exact c
 ·cases s;simp only[Sl.v,Q2] at b a;rw[b.1] at a;cases a
theorem jW {k:mi}{H:aa}{s:Sl}{l:List Int}(h:Ints k H s l){i:Int}{j:Nat}(e:i=(j:Int))(h1:j<l.length){K:hY->Int->Prop}(b:∀ad,s.a=some ad->K ad (l.getD j 0)):
  ae s.a λa=>(0<=i/\i<(s.n:Int))/\ld (ab k) H (a.add (i.toNat*1)) λx=>K a x:=by
 subst e;exact h.ld (by omega) (by omega) (by simpa using b)
structure dX (H:aa)(p:hY)(t:ic)(v:gp):Prop where
 spot:p.spot=none
 off:p.off=0
 obj:H[p.block]?=some (.cells #[v] t (0,0))
theorem dX.var {H:aa}{p:hY}{t:ic}{v:gp}(h:dX H p t v):Var H p v:=⟨h.spot,h.off,t,h.obj⟩
theorem dX.lt {H:aa}{p:hY}{t:ic}{v:gp}(h:dX H p t v):p.block<H.size:=h.var.lt
theorem dX.mod {F:Nat->Prop}{H H':aa}{p:hY}{t:ic}{v:gp}(h:dX H p t v)(hm:Mod F H H')(a:¬F p.block):dX H' p t v:=⟨h.spot,h.off,(hm.same _ h.lt a).trans h.obj⟩
theorem dX.ext {H H':aa}{p:hY}{t:ic}{v:gp}(h:dX H p t v)(hm:Ext H H'):dX H' p t v:=h.mod hm id
theorem dX.ld {c:fg}{H:aa}{p:hY}{t:ic}{x:c.α}{K:c.α->Prop}(h:dX H p t (c.enc x))(a:K x):pc c H p K:=h.var.ld a
theorem dX.st {H:aa}{p:hY}{t:ic}{u v:gp}{K:aa->Prop}(h:dX H p t u)(e:jJ v=true)(f:∀H',dX H' p t v->Mod (λb=>b=p.block) H H'->H'.size=H.size->K H'):pw H p v K:=by
 have g:=h.var.cell;obtain⟨b,o,sp⟩:=p;obtain⟨h1,d,c⟩:=h;simp only at h1 d c;subst h1;subst d;refine⟨e,⟨_,g⟩,dJ c,f _ ⟨rfl,rfl,?_⟩ (Mod.set rfl) (iS _ _ _)⟩;rw[pJ (a:=⟨b,0,none⟩) c rfl];rfl
theorem iU {H:aa}{v:gp}{t:ic}{K:hY->aa->Prop}(a:∀p H',p.block=H.size->H'.size=H.size+1->dX H' p t v->Ext H H'->K p H'):aG H #[v] t K:=
 a _ _ rfl (by simp) ⟨rfl,rfl,by simp⟩ (Mod.push _ _ _)
theorem Mod.setObj {F:Nat->Prop}{H:aa}{l:Nat}{o:Obj}(h:F l):Mod F H (H.setIfInBounds l o):=
 ⟨by simp,λb _ a=>Sa (by intro e;subst e;exact a h)⟩
theorem gS {H:aa}{l:Nat}{o a:Obj}(h:H[l]?=some o):(H.setIfInBounds l a)[l]?=some a:=by
 have:=(QR.1 h).1;simp[this]
theorem aM {H:aa}{b:Nat}{c e:Array gp}{t d:ic}{f f':Nat×Nat}(h:H[b]?=some (.cells c t f))(a:H[b]?=some (.cells e d f')):t=d:=by
 rw[h] at a;simp at a;exact a.2.1
theorem wv {k:mi}{H:aa}{t:ic}(l:List Int){K:hY->aa->Prop}(a:∀p H',H'.size=H.size+1->p.block=H.size->(∀c,Ints k H' ⟨some p,l.length,c⟩ l)->Ext H H'->K p H'):
  aG H (l.map (QT k)).toArray t K:=by
 refine a _ _ (by simp) rfl (λc=>⟨rfl,?_⟩) (Mod.push _ _ _);intro i v b;refine⟨_,rfl,?_⟩;rw[add_lit,R3];exact cC (c:=(l.map (QT k)).toArray) (t:=t) (fz:=(0,0)) (by simp) (by simpa using b)
def bytesOf (l:List Int):ByteArray:=⟨(l.map λx=>Rv x.toNat).toArray⟩
theorem ofNat_toNat {x:Int}(h:0<=x/\x<256):((Rv x.toNat).toNat:Int)=x:=by
 rw[TY];omega
theorem Ints.gh {H:aa}{s:Sl}{l:List Int}(h:Ints .u8 H s l)(c:∀x∈l,0<=x/\x<256):p6 H s.a s.n (bytesOf l):=by
 have d:=h.len;unfold p6;split
 ·rename_i b;have:l=[]:=by
   cases l with
   |nil=>rfl
   |cons x r=>
     obtain⟨ad,e,_⟩:=h.at (i:=0) (by simp);rw[b] at e;cases e
  subst this;rfl
 ·rename_i ad b;refine⟨by simp[bytesOf,ByteArray.size,d],λi hi=>?_⟩;have a:i<l.length:=by omega
  obtain⟨f,e,g⟩:=h.at a;rw[b] at e;cases e;rw[g];have:rq (bytesOf l) i=Rv (l[i]).toNat:=by simp[rq,bytesOf,a]
  rw[this,ofNat_toNat (c _ (Re a))]
theorem MX {H:aa}{s:Sl}{l:List Int}{K:ByteArray->Prop}(h:Ints .u8 H s l)(a:∀x∈l,0<=x/\x<256)(b:K (bytesOf l)):xw H s.a s.n K:=⟨_,h.gh a,b⟩
section
open Go.MapKept
structure ct (d:nH)(H:aa)(r:Nat)(es:Array nW)(clk:Nat):Prop where
 obj:H[r]?=some (.map es clk)
 stamped:Stamped es clk
 keys:∀x∈es.toList,IsKey d x.key
def fw (es:Array nW)(k v:gp):Prop:=∃e∈es.toList,e.key=k/\e.val=v
theorem ct.lt {d:nH}{H:aa}{r:Nat}{es:Array nW}{clk:Nat}(h:ct d H r es clk):r<H.size:=(QR.1 h.obj).1
theorem ct.mod {d:nH}{F:Nat->Prop}{H H':aa}{r:Nat}{es:Array nW}{clk:Nat}(h:ct d H r es clk)(hm:Mod F H H')(a:¬F r):ct d H' r es clk:=
 ⟨(hm.same r h.lt a).trans h.obj,h.stamped,h.keys⟩
theorem ct.new (d:nH)(H:aa):ct d (H.push (.map #[] 0)) H.size #[] 0:=⟨by simp,stamped_empty 0,by simp⟩
section
variable {P:hQ}{t kt et:ic}{d:nH}{H:aa}{r:Nat}{es:Array nW}{clk:Nat}{k:gp}
theorem uh {z:gp}{inf:pa}(o:P.underlying t=some (.map kt et))(hd:P.underlying kt=some d)(hi:P.info? et=some inf)(p:inf.zero=some z)(hm:ct d H r es clk)(hk:IsKey d k){c:fg}{K:c.α->Prop}
  (a:∀v,fw es k v->∃x:c.α,c.enc x=.tuple #[v,.bool true]/\K x) (b:(∀v,¬fw es k v)->∃x:c.α,c.enc x=.tuple #[z,.bool false]/\K x):
  Fs c P (Sd t (.map (some r)) k true) H K:=by
 have f:∀(e:Bool) (w:gb),(WC e 10000 kt k).run P w=.ok () w:=λe w=>run_checkKey hd hk e 9999;rcases findNow_spec hk es.toList 0 hm.keys with ⟨h1,g⟩|⟨j,e,h1,g,q⟩
 ·obtain⟨x,h,i⟩:=b (λv ⟨e,he,l,_⟩=>g e he l);refine⟨x,λw hw=>?_,i⟩;subst hw;have m:(WN kt k es.toList).run P w=.ok none w:=run_findKey hd h1;have n:=hm.obj;rw[h];simp[Sd,run_underlying o,getObj,Sn,n,f,m,zeroValue,typeInfo,hi,p]
 ·obtain⟨x,h,i⟩:=a e.val ⟨e,QL g,q,rfl⟩;refine⟨x,λw hw=>?_,i⟩;subst hw;have m:(WN kt k es.toList).run P w=.ok (some (0+j,e.val)) w:=run_findKey hd h1;have n:=hm.obj;rw[h];simp[Sd,run_underlying o,getObj,Sn,n,f,m]
theorem ct.set {H:aa}{es c:Array nW}{clk a:Nat}(h:ct d H r es clk)(hs:Stamped c a)(hk:∀x∈c.toList,IsKey d x.key):
  ct d (H.setIfInBounds r (.map c a)) r c a/\Mod (λb=>b=r) H (H.setIfInBounds r (.map c a)):=
 ⟨⟨by simp[h.lt],hs,hk⟩,⟨by simp,λb _ f=>Sa (λe=>f e.symm)⟩⟩
theorem oJ {v:gp}{K:aa->Prop}(h:P.underlying t=some (.map kt et))(hd:P.underlying kt=some d)(hm:ct d H r es clk)(hk:IsKey d k)(c:∀u,¬fw es k u)
  (i:∀H',ct d H' r (es.push {key:=k,val:=v,born:=clk}) (clk+1)->Mod (λb=>b=r) H H'->H'.size=H.size->K H'):jo P (SZ t (.map (some r)) k v) H K:=by
 intro w hw;subst hw;have g:=hm.obj;rcases findNow_spec hk es.toList 0 hm.keys with ⟨h1,f⟩|⟨j,e,h1,f,l⟩
 ·obtain⟨m1,m2⟩:=hm.set (stamped_push (val:=v) hm.stamped f) (by
   intro x a;simp only[XH,QQ,Q1] at a;rcases a with a|rfl
   ·exact hm.keys x a
   ·exact hk)
  refine⟨(),{w with heap:=w.heap.setIfInBounds r (.map (es.push {key:=k,val:=v,born:=clk}) (clk+1))},?_,i _ m1 m2 (by simp),(.of_le rfl (QN _))⟩;simp[SZ,run_underlying h,SG g,run_checkKey hd hk,run_findKey hd h1,Ty _ g,SR]
 ·exact absurd ⟨e,QL f,l,rfl⟩ (c e.val)
theorem uB {ty:ic}{K:gp->aa->Prop}(F:P.underlying t=some (.map kt et))(hd:P.underlying kt=some d)(hm:ct d H r es clk)(hk:IsKey d k){t2:ic}
  (G:∀g H',ct d H' r g clk->(∀p v,fw g p v↔fw es p v/\p≠k)->(∀u,fw es k u->g.size+1=es.size)->Mod (λb=>b=r) H H'->H'.size=H.size->K (.tuple #[]) H'):bf gR P (Sj #[t,t2] ty #[.map (some r),k]) H K:=by
 intro w hw;subst hw;have A:=hm.obj;have q:∀(e:Bool) (w:gb),(WC e 10000 kt k).run P w=.ok () w:=λe w=>run_checkKey hd hk e 9999;rcases findNow_spec hk es.toList 0 hm.keys with ⟨h1,o⟩|⟨j,e,h1,o,I⟩
 ·obtain⟨m1,m2⟩:=hm.set hm.stamped hm.keys;refine⟨.tuple #[],{w with heap:=w.heap.setIfInBounds r (.map es clk)},?_,⟨.tuple #[],rfl,G _ _ m1 (λp v=>⟨λ⟨e,he,f,s⟩=>⟨⟨e,he,f,s⟩,by rw[<-f];exact o e he⟩,λh=>h.1⟩) (λu ⟨e,he,f,_⟩=>absurd f (o e he)) m2 (by simp)⟩,(.of_le rfl (QN _))⟩;simp[Sj,run_underlying F,SG A,q,run_findKey hd h1,Ty _ A,SR]
 ·have J:j<es.toList.length:=(QJ.1 o).1;have y:j<es.size:=by simpa using J
  have l:(es.eraseIdxIfInBounds j).toList=es.toList.eraseIdx j:=by
   unfold U8;rw[dif_pos y];simp
  have z:∀x∈(es.eraseIdxIfInBounds j).toList,x∈es.toList:=by
   intro x c;rw[l] at c;exact Se c
  obtain⟨m1,m2⟩:=hm.set (stamped_erase hm.stamped j) (λx c=>hm.keys x (z x c));refine⟨.tuple #[],{w with heap:=w.heap.setIfInBounds r (.map (es.eraseIdxIfInBounds j) clk)},?_,⟨.tuple #[],rfl,G _ _ m1 (λp v=>?_) (λ_ _=>by unfold U8;rw[dif_pos y];simp;omega) m2 (by simp)⟩,(.of_le rfl (QN _))⟩
  ·simp[Sj,run_underlying F,SG A,q,run_findKey hd h1,Ty _ A,SR]
  ·have B:=hm.stamped.2.2;have m:∀i x,es.toList[i]?=some x->x.key=k->i=j:=by
    intro i x c C;have hi:i<es.toList.length:=(QJ.1 c).1;have L:(es.toList.map (·.key))[i]?=(es.toList.map (·.key))[j]?:=by
     rw[QV,QV,c,o];simp[C,I]
    exact(UX (by simpa using hi) B).1 L
   constructor
   ·rintro⟨x,c,f,s⟩;rw[l,Tz] at c;obtain⟨i,n,a⟩:=c;refine⟨⟨x,QL a,f,s⟩,λD=>n (m i x a (by rw[f];exact D))⟩
   ·rintro⟨⟨x,c,f,s⟩,E⟩;refine⟨x,?_,f,s⟩;rw[l,Tz];obtain⟨i,a⟩:=QU.1 c;refine⟨i,λn=>?_,a⟩;subst n;rw[o] at a;cases a;exact E (by rw[<-f];exact I)
theorem qF {K:Option hY->aa->Prop}(a:P.underlying t=some (.map kt et))(hm:ct d H r es clk)
  (b:∀H',H'[H.size]?=some (.mapIter (some r) clk #[] clk)->Ext H H'->K (some ⟨H.size,0,none⟩) H'):bf aB P (SS t (.map (some r))) H K:=by
 intro w hw;subst hw;have c:=hm.obj;refine⟨.pointer (some ⟨w.heap.size,0,none⟩),{w with heap:=w.heap.push (.mapIter (some r) clk #[] clk)},?_,⟨some ⟨w.heap.size,0,none⟩,rfl,b _ (by simp) (Mod.push _ _ _)⟩,(.of_le rfl (QN _))⟩;simp[SS,run_underlying a,SG c,SR,newObj,Sn]
theorem E5 {it:Nat}{seen:Array Nat}{e:nW}{K:gp×gp->aa->Prop}(hm:ct d H r es clk)(c:H[it]?=some (.mapIter (some r) clk (seen.push e.born) clk))(he:e∈es.toList)
  (g:K (e.key,e.val) H):bf pS P (Sr (.pointer (some ⟨it,0,none⟩))) H K:=by
 intro w hw;subst hw;have i:=hm.obj;have a:es.find? (λx=>x.born==e.born)=some e:=by
  rw[<-YG];have key:∀l:List nW,(l.map (·.born)).Nodup->e∈l->l.find? (λx=>x.born==e.born)=some e:=by
   intro l
   induction l with
   |nil=>intro _ h;cases h
   |cons x l j=>
     intro b he;rw[Q7,To] at b;rw[Wt];rcases QX.1 he with q|q
     ·subst q;simp
     ·have f:x.born≠e.born:=λh=>b.1 (by rw[h];exact TN q);have:(x.born==e.born)=false:=by simpa using f
      rw[this];exact j b.2 q
  exact key _ hm.stamped.2.1 he
 refine⟨.tuple #[e.key,e.val],w,?_,⟨(e.key,e.val),rfl,g⟩,.refl w⟩;simp[Sr,getObj,Sn,c,i,a]
theorem Bu (es:Array nW)(seen:Array Nat)(clk:Nat)(c:∀x∈es.toList,x.born<clk)(b:Array (Option nW))(g:((if (Ry (λx:nW=>decide (x.born<clk)) (Ry (λe:nW=>!seen.contains e.born) es)).isEmpty=true then #[none] else #[])++
   YH some (Ry (λx:nW=>decide (x.born<clk)) (Ry (λe:nW=>!seen.contains e.born) es)++Ry (λx:nW=>decide (x.born>=clk)) (Ry (λe:nW=>!seen.contains e.born) es)))=b):
  0<b.size/\∀(i:Nat) (x:Option nW),b[i]?=some x->(x=none/\∀e∈es.toList,seen.contains e.born=true)\/∃e,x=some e/\e∈es.toList/\seen.contains e.born=false:=by
 subst g;constructor
 ·split
  ·simp;omega
  ·rename_i h;have:0<(Ry (λx:nW=>decide (x.born<clk)) (Ry (λe:nW=>!seen.contains e.born) es)).size:=by
    rw[W4] at h;omega
   simp only[UW,Zx];omega
 ·intro i x j;have a:=Ym j;rw[WO] at a;rcases a with a|a
  ·split at a
   ·rename_i h;left;refine⟨by simpa using a,λe he=>?_⟩;cases hs:seen.contains e.born with
    |true=>rfl
    |false=>
      have f:e∈Ry (λx:nW=>decide (x.born<clk)) (Ry (λe:nW=>!seen.contains e.born) es):=by
       rw[Tt,Tt];exact⟨⟨by simpa using he,by rw[hs];rfl⟩,by simpa using c e he⟩
      rw[YX] at h;rw[h] at f;simp at f
   ·simp at a
  ·right;rw[ZT] at a;obtain⟨e,he,rfl⟩:=a;rw[WO] at he;have l:e∈Ry (λe:nW=>!seen.contains e.born) es:=by
    rcases he with he|he
    ·exact(Tt.1 he).1
    ·exact(Tt.1 he).1
   obtain⟨m,n⟩:=Tt.1 l;exact⟨e,rfl,by simpa using m,by simpa using n⟩
theorem Gj {it:Nat}{seen:Array Nat}{ty:ic}{K:Bool×List gp->aa->Prop}(hm:ct d H r es clk)(hit:H[it]?=some (.mapIter (some r) clk seen clk))
  (hstep:∀e∈es.toList,seen.contains e.born=false->∀H',H'[it]?=some (.mapIter (some r) clk (seen.push e.born) clk)->Mod (λb=>b=it) H H'->H'.size=H.size->K (true,[e.key,e.val]) H')
  (hover:(∀e∈es.toList,seen.contains e.born=true)->K (false,[]) H):bf gM P (SO (.pointer (some ⟨it,0,none⟩)) false ty) H K:=by
 refine sv ?_;have hlt:it<H.size:=(QR.1 hit).1;have hb:=hm.obj;unfold SO;refine im _ _ ⟨_,hit,rfl,?_⟩;refine im _ _ ⟨_,hb,rfl,?_⟩;have hlast:(!seen.isEmpty&&!es.isEmpty&&es.all (λx=>decide (x.born>=clk)))=false:=by
  cases hes:es.toList with
  | nil => have : es.isEmpty = true := by simp [ZU, ← Td, hes]
           rw[this];simp
  |cons x l=>
    have hx:x∈es.toList:=by rw[hes];exact Q9
    have h1:=hm.stamped.1 x hx;have:es.all (λx=>decide (x.born>=clk))=false:=by
     rw[<-XT,XI];exact⟨x,hx,by simp;omega⟩
    rw[this];simp
 simp only[hlast,wpS];rw[if_neg (by simp)];generalize hc:((if (Ry (λx:nW=>decide (x.born<clk)) (Ry (λe:nW=>!seen.contains e.born) es)).isEmpty=true then #[none] else #[])++
   YH some (Ry (λx:nW=>decide (x.born<clk)) (Ry (λe:nW=>!seen.contains e.born) es)++Ry (λx:nW=>decide (x.born>=clk)) (Ry (λe:nW=>!seen.contains e.born) es)))=cand
 obtain⟨hsz,hx⟩:=Bu es seen clk hm.stamped.1 cand hc;have fin:∀i,i<cand.size->wpS P (match cand[i]? with
   |some (some e)=>do
     setObj it (Zy (some r) clk (seen.push e.born) clk)
     pure (Xn #[WH true,e.key,e.val])
   |some none=>pure (Xn #[WH false])
   |none=>stuck "Next: no such candidate") H (λv H'=>∃x:gM.α,v=gM.enc x/\K x H'):=by
  intro i hi;have hci:cand[i]?=some cand[i]:=Rn hi;rcases hx i _ hci with ⟨h1,h2⟩|⟨e,h1,h2,h3⟩
  ·rw[hci,h1];exact⟨(false,[]),rfl,hover h2⟩
  ·rw[hci,h1];refine im _ _ ⟨⟨_,hit,rfl⟩,⟨(true,[e.key,e.val]),rfl,hstep e h2 h3 _ (by simp[hlt]) ⟨by simp,λb _ hn=>Sa (λe=>hn e.symm)⟩ (by simp)⟩⟩
 refine im _ _ ?_;unfold choose;simp only[wpS];split
 ·exact fin 0 hsz
 ·exact λt=>fin _ (U1 _ hsz)
end
end
theorem aI {H:aa}{b:Nat}{o:Obj}(h:H[b]?=some o):b<H.size:=(QR.1 h).1
theorem Mod.at {F:Nat->Prop}{H H':aa}(hm:Mod F H H'){b:Nat}{o:Obj}(h:H[b]?=some o)(a:¬F b):H'[b]?=some o:=(hm.same b (aI h) a).trans h
theorem bg (b n:Nat):(⟨b,0,none⟩:hY).add n=⟨b,n,none⟩:=by rw[add_lit,R3]
abbrev ao (H:aa)(b:Nat)(t:ic)(cs:Array gp):Prop:=H[b]?=some (.cells cs t (0,0))
theorem ao.mod {F:Nat->Prop}{H H':aa}{b:Nat}{t:ic}{cs:Array gp}(h:ao H b t cs)(hm:Mod F H H')(a:¬F b):ao H' b t cs:=hm.at h a
theorem ao.ext {H H':aa}{b:Nat}{t:ic}{cs:Array gp}(h:ao H b t cs)(hm:Mod (λ_=>False) H H'):ao H' b t cs:=hm.at h id
theorem ao.cell {H:aa}{b:Nat}{t:ic}{cs:Array gp}(h:ao H b t cs){i:Nat}{v:gp}(hi:cs[i]?=some v):dh H ⟨b,i,none⟩=some v:=cC h hi
theorem ao.ld {c:fg}{H:aa}{b:Nat}{t:ic}{cs:Array gp}(h:ao H b t cs){i:Nat}{x:c.α}(hi:cs[i]?=some (c.enc x)){K:c.α->Prop}(a:K x):pc c H (Ru ⟨b,0,none⟩ i) K:=
 ⟨x,by rw[bg];exact h.cell hi,a⟩
theorem ao.dE {c:fg}{G:aa->Prop}{b:Nat}{t:ic}{cs:aa->Array gp}(h:∀H,G H->ao H b t (cs H)){i:Nat}{x:c.α}(hi:∀H,G H->(cs H)[i]?=some (c.enc x)){K:c.α->Prop}(e:K x):qk c G (Ru ⟨b,0,none⟩ i) K:=
 ⟨x,λH' a=>by rw[bg];exact(h H' a).cell (hi H' a),e⟩
theorem ao.lX {H:aa}{b:Nat}{t:ic}{cs:Array gp}(h:ao H b t cs){o n:Nat}{ds:Array gp}(a:ds.size=n)(hd:∀i,i<n->cs[o+i]?=ds[i]?):sc H ⟨b,o,none⟩ n (.agg ds):=by
 refine⟨ds,rfl,a,λi hi=>?_⟩;have h1:=hd i hi;rw[add_lit];rw[<-h1];have:ds[i]?=some ds[i]:=Rn (by omega);rw[h1,this];exact h.cell (h1.trans this)
theorem ao.cN {c:fg}{H:aa}{b:Nat}{t:ic}{cs:Array gp}(h:ao H b t cs){n:Nat}{x:c.α}(a:c.enc x=.agg cs)(e:cs.size=n){K:c.α->Prop}(f:K x):sy c n H ⟨b,0,none⟩ K:=
 ⟨x,by rw[a];exact h.lX e (λi _=>by rw[R3]),f⟩
theorem ao.st {H:aa}{b:Nat}{t:ic}{cs:Array gp}{v:gp}{K:aa->Prop}(h:ao H b t cs){i:Nat}(hi:i<cs.size)(c:jJ v=true)
  (e:∀H',ao H' b t (cs.setIfInBounds i v)->Mod (λx=>x=b) H H'->H'.size=H.size->K H'):pw H (Ru ⟨b,0,none⟩ i) v K:=by
 rw[bg];exact⟨c,⟨_,h.cell (Rn hi)⟩,dJ h,e _ (pJ (a:=⟨b,i,none⟩) h rfl) (Mod.set rfl) (iS _ _ _)⟩
theorem au {H:aa}{cs:Array gp}{t:ic}{K:hY->aa->Prop}(a:∀H',H'.size=H.size+1->ao H' H.size t cs->Mod (λ_=>False) H H'->K ⟨H.size,0,none⟩ H'):aG H cs t K:=
 a _ (by simp) (by simp[ao]) (Mod.push _ _ _)
theorem AV {P:hQ}{ty:ic}{n:Nat}(hi:nk P ty n=true):∃i,P.info? ty=some i/\i.size=n:=by
 unfold nk at hi;split at hi
 ·rename_i i he;exact⟨i,he,Q0 hi⟩
 ·cases hi
theorem jy {P:hQ}{ty:ic}{H:aa}{b o:Nat}{t:ic}{cur cs:Array gp}{K:aa->Prop}(h:ao H b t cur)(hi:nk P ty cs.size=true)(a:o+cs.size<=cur.size)(h1:∀v∈cs.toList,v.oneCell'=true)
  (e:∀H',ao H' b t (cur.toList.take o++cs.toList++cur.toList.drop (o+cs.size)).toArray->Mod (λx=>x=b) H H'->H'.size=H.size->K H'):jo P (Q3 ty (.pointer (some ⟨b,o,none⟩)) (.agg cs)) H K:=by
 intro w hw;subst hw;obtain⟨i,he,hs⟩:=AV hi;have f:=run_storeCells_at (P:=P) b o t cs.toList 0 cur w h (by simpa using a) h1;have g:(Q3 ty (.pointer (some ⟨b,o,none⟩)) (.agg cs)).run P w=.ok () (w.setRow b (cur.toList.take o++cs.toList++cur.toList.drop (o+cs.size)).toArray):=by
  have c:(sizeOf ty).run P w=.ok cs.size w:=by simp[sizeOf,typeInfo,he,hs]
  simp only[Q3,Te,Rk,RN,Rl,storeVar,c,Value.cells];simpa using f
 exact⟨(),_,g,e _ (setRow_heap w b cur _ t _ h) ⟨by simp,λk _ hk=>setRow_other w b k _ hk⟩ (by simp),(.of_le rfl (QN _))⟩
theorem ao.iE {P:hQ}{ty:ic}{H:aa}{b:Nat}{t:ic}{cur cs:Array gp}{K:aa->Prop}(h:ao H b t cur)(hi:nk P ty cs.size=true)(f:cur.size=cs.size)(h1:∀v∈cs.toList,v.oneCell'=true)
  (c:∀H',ao H' b t cs->Mod (λx=>x=b) H H'->H'.size=H.size->K H'):jo P (Q3 ty (.pointer (some ⟨b,0,none⟩)) (.agg cs)) H K:=
 jy h hi (by omega) h1 λH' a=>c H' (by
  have e:(cur.toList.take 0++cs.toList++cur.toList.drop (0+cs.size)).toArray=cs:=by
   rw[RL (by simp;omega)];simp
  rw[e] at a;exact a)
theorem aw {α:Type}(a:α)(K:α->Prop):ae (some a) K=K a:=rfl
theorem aR {b:Bool}{A B:Prop}(h:b=true)(k:A):br b A B:=by subst h;exact k
theorem aE {b:Bool}{A B:Prop}(h:b=false)(k:B):br b A B:=by subst h;exact k
theorem tB {d:nH}{H:aa}{K:Nat->aa->Prop}(a:∀H',H'.size=H.size+1->ct d H' H.size #[] 0->Mod (λ_=>False) H H'->K H.size H'):Hh H K:=
 a _ (by simp) (ct.new d H) (Mod.push _ _ _)
def Hl (P:hQ)(t kt:ic)(d:nH):Prop:=∃(et:ic) (inf:pa),P.underlying t=some (.map kt et)/\P.underlying kt=some d/\P.info? et=some inf/\inf.zero=some (.pointer none)
def FX (P:hQ)(t kt:ic):Bool:=
 match P.underlying t with|some (.map a et)=>Rh a kt&&(match P.info? et with|some inf=>(match inf.zero with|some (.pointer none)=>true|_=>false)|none=>false)|_=>false
theorem tJ {P:hQ}{t kt:ic}{d:nH}(h:FX P t kt=true)(hd:P.underlying kt=some d):Hl P t kt d:=by
 unfold FX at h;split at h
 ·rename_i b et q;simp only[QY] at h;obtain⟨h1,a⟩:=h;have:=Q0 h1;subst this;split at a
  ·rename_i inf c;split at a
   ·rename_i e;exact⟨et,inf,q,hd,c,e⟩
   ·cases a
  ·cases a
 ·cases h
theorem aO.ar {H H':aa}{base:Nat}{e:ic}{size:Nat}{s:Sl}{xs:List gp}(h:aO H base e size s xs)(k:∀b,ai s b->b<H.size->H'[b]?=H[b]?):aO H' base e size s xs:=by
 refine⟨h.1,h.2.imp id ?_⟩;rintro⟨g,cap,cur,a,c,f,i⟩;refine⟨g,cap,cur,a,c,?_,i⟩;have hs:ai s g:=by
  cases s;simp only[Sl.v,Q2] at a;exact⟨_,a.1,rfl⟩
 exact(k g hs (h.block g hs).2).trans f
theorem aO.lt {H:aa}{base:Nat}{e:ic}{size:Nat}{s:Sl}{xs:List gp}(h:aO H base e size s xs):∀b,ai s b->b<H.size:=λb a=>(h.block b a).2
theorem aO.yD {H:aa}{base:Nat}{e:ic}{size:Nat}{s:Sl}{xs:List gp}(h:aO H base e size s xs):aO H 0 e size s xs:=
 ⟨h.1,h.2.imp id λ⟨g,cap,cur,a,_,b⟩=>⟨g,cap,cur,a,Q5 _,b⟩⟩
theorem ct.ar {d:nH}{H H':aa}{r:Nat}{es:Array nW}{clk:Nat}(h:ct d H r es clk)(k:H'[r]?=H[r]?):ct d H' r es clk:=⟨k.trans h.obj,h.stamped,h.keys⟩
structure eZ (α:Type) where
 size:Nat
 enc:α->List gp
 len:∀x,(enc x).length=size
 one:∀x,∀u∈enc x,u.oneCell'=true
def eZ.all {α:Type}(E:eZ α)(l:List α):List gp:=l.flatMap E.enc
theorem eZ.cj {α:Type}(E:eZ α):∀l:List α,(E.all l).length=l.length*E.size
 |[]=>by simp[eZ.all]
 |x::l=>by
   have:=eZ.cj E l;simp only[eZ.all,RC,Ri,E.len,Rr] at this ⊢;rw[this,RQ];omega
theorem eZ.Dw {α:Type}(E:eZ α)(l:List α):∀u∈E.all l,u.oneCell'=true:=by
 intro u hu;obtain⟨x,_,a⟩:=Sm.1 hu;exact E.one x u a
theorem eZ.all_append {α:Type}(E:eZ α)(l r:List α):E.all (l++r)=E.all l++E.all r:=by simp[eZ.all]
theorem eZ.xp {α:Type}(E:eZ α):∀(l:List α) (i j:Nat),j<E.size->(E.all l)[i*E.size+j]?=(l[i]?).bind λx=>(E.enc x)[j]?
 |[],i,j,_=>by simp[eZ.all]
 |x::l,0,j,a=>by
   simp only[eZ.all,RC,YF,R3,Vs,Option.bind_some];rw[Rf (by rw[E.len];exact a)]
 |x::l,i+1,j,a=>by
   have:=eZ.xp E l i j a;simp only[eZ.all,RC,RV] at this ⊢;rw[RK (by rw[E.len,RQ];omega),E.len,<-this];congr 1;rw[RQ];omega
theorem eZ.xU {α:Type}(E:eZ α)(l:List α)(i:Nat)(y:α)(hi:i<l.length):E.all (l.set i y)=(E.all l).take (i*E.size)++E.enc y++(E.all l).drop (i*E.size+E.size):=by
 induction l generalizing i with
 |nil=>simp at hi
 |cons x l a=>
   cases i with
   |zero=>
     simp only[eZ.all,Tq,RC,YF,Xm,SY,R3];rw[VX (by rw[E.len];exact QN _),RL (by rw[E.len];exact QN _)];simp
   |succ i=>
     have h1:=a i (by simpa using hi);simp only[eZ.all,VG,RC] at h1 ⊢;rw[h1,RQ];have b:i*E.size+E.size=(E.enc x).length+i*E.size:=by rw[E.len];omega
     have c:i*E.size+E.size+E.size=(E.enc x).length+(i*E.size+E.size):=by rw[E.len];omega
     rw[c,List.drop_length_add_append,b,Xs];simp
theorem eZ.yO {α:Type}(E:eZ α):∀(l:List α) (i:Nat),(E.all l).drop (i*E.size)=E.all (l.drop i)
 |l,0=>by simp
 |[],i+1=>by simp[eZ.all]
 |x::l,i+1=>by
   have:=eZ.yO E l i;simp only[eZ.all,RC,Yz] at this ⊢;rw[<-this,show (i+1)*E.size=(E.enc x).length+i*E.size by rw[E.len,RQ];omega,<-List.drop_drop,List.drop_left]
theorem eZ.ux {α:Type}(E:eZ α):∀(l:List α) (i:Nat),(E.all l).take (i*E.size)=E.all (l.take i)
 |l,0=>by simp[eZ.all]
 |[],i+1=>by simp[eZ.all]
 |x::l,i+1=>by
   have:=eZ.ux E l i;simp only[eZ.all,RC,Ue] at this ⊢;rw[<-this,show (i+1)*E.size=(E.enc x).length+i*E.size by rw[E.len,RQ];omega,Xs]
abbrev bX {α:Type}(E:eZ α)(H:aa)(a:Option hY)(l:List α):Prop:=Reads H a (E.all l)
abbrev aF {α:Type}(E:eZ α)(e:ic)(H:aa)(s:Sl)(l:List α):Prop:=aO H 0 e E.size s (E.all l)
section
variable {α:Type}{E:eZ α}{e:ic}{H:aa}{s:Sl}{l:List α}
theorem aF.nil (E:eZ α)(e:ic)(H:aa):aF E e H (Sl.mk none 0 0) []:=aO.nil H 0 e E.size
theorem aF.n (h:aF E e H s l)(hs:0<E.size):s.n=l.length:=by
 have h1:=h.1;rw[eZ.cj] at h1;exact(Nat.eq_of_mul_eq_mul_right hs h1).symm
theorem aF.OR (h:aF E e H s l)(hs:0<E.size)(a:s.a=none):l=[]:=by
 have h1:=aO.OP h a;have b:=aF.n h hs;exact Ra (by omega)
theorem bX.cell {a:Option hY}(h:bX E H a l){i j:Nat}{x:α}{v:gp}(hi:l[i]?=some x)(b:(E.enc x)[j]?=some v):∃ad,a=some ad/\dh H (ad.add (i*E.size+j))=some v:=by
 have c:j<E.size:=by have:=(QJ.1 b).1;rwa [E.len] at this
 exact h _ v (by rw[E.xp l i j c,hi];exact b)
theorem bX.ld {c:fg}{a:Option hY}{ad:hY}(h:bX E H a l)(f:a=some ad){i j:Nat}{x:α}{y:c.α}(hi:l[i]?=some x)(g:(E.enc x)[j]?=some (c.enc y)){n:Nat}(m:n=i*E.size){K:c.α->Prop}(o:K y):ld c H ((ad.add n).add j) K:=by
 obtain⟨p,b,q⟩:=h.cell hi g;rw[f] at b;cases b;subst m;exact⟨y,by rw[add_add];exact q,o⟩
theorem bX.row {a:Option hY}{ad:hY}(h:bX E H a l)(c:a=some ad){i:Nat}{x:α}(hi:l[i]?=some x):lX H (ad.add (i*E.size)) E.size (.agg (E.enc x).toArray):=by
 refine⟨_,rfl,by simp[E.len],λj f=>?_⟩;have g:(E.enc x)[j]?=some ((E.enc x)[j]'(by rw[E.len];exact f)):=QK _;obtain⟨m,b,n⟩:=h.cell hi g;rw[c] at b;cases b;rw[add_add,n];simp
theorem bX.cN {c:fg}{a:Option hY}{ad:hY}(h:bX E H a l)(b:a=some ad){i:Nat}{x:α}{y:c.α}(hi:l[i]?=some x)(f:c.enc y=.agg (E.enc x).toArray){n m:Nat}(g:n=i*E.size)(hm:m=E.size){K:c.α->Prop}(j:K y):cN c m H (ad.add n) K:=by
 subst g;subst hm;exact⟨y,by rw[f];exact h.row b hi,j⟩
theorem bX.addr {a:Option hY}(h:bX E H a l)(hs:0<E.size)(hl:0<l.length):∃ad,a=some ad:=by
 have b:0<(E.all l).length:=by rw[E.cj];exact Nat.mul_pos hl hs
 obtain⟨ad,c,_⟩:=h.at b;exact⟨ad,c⟩
theorem bX.drop {c i:Nat}{a:Option hY}(h:bX E H a l)(o:l.length<=c):bX E H (cM a c i E.size) (l.drop i):=by
 unfold cM;split
 ·rename_i b;have g:c=i:=by simpa using b
  rw[RL (by omega)];exact Reads.nil _ _
 ·intro j v m;rw[<-E.yO,Si] at m;obtain⟨ad,n,f⟩:=h _ v m;refine⟨ad.add (i*E.size),by rw[n];rfl,?_⟩;rw[add_add];exact f
theorem bX.take {i:Nat}{a:Option hY}(h:bX E H a l):bX E H a (l.take i):=by
 have:=Reads.take h (i*E.size)
 rwa [E.ux] at this
theorem bX.ar {H':aa}{a:Option hY}(h:bX E H a l)(k:∀ad,a=some ad->ad.block<H.size->H'[ad.block]?=H[ad.block]?):bX E H' a l:=by
 intro i v g;obtain⟨ad,c,f⟩:=h i v g;have b:=j6 f;rw[dM] at b;exact⟨ad,c,(ib (by rw[dM];exact k ad c b)).trans f⟩
theorem aF.rd (h:aF E e H s l):bX E H s.a l:=aO.reads h
def tc (P:hQ)(t e:ic)(size bytes:Nat):Prop:=∃(inf:pa) (z:gp),P.underlying t=some (.slice e)/\P.info? e=some inf/\inf.zero=some z/\z.cells.size=inf.size/\inf.size=size/\inf.bytes=bytes/\0<size
def On (P:hQ)(t e:ic)(size bytes:Nat):Bool:=
 (match P.underlying t with|some (.slice a)=>Rh a e|_=>false)&&
 (match P.info? e with|some inf=>(match inf.zero with|some v=>Rh v.cells.size inf.size|none=>false)&&(Rh inf.size size&&(Rh inf.bytes bytes&&SF 0 size))|none=>false)
theorem fe {P:hQ}{t e:ic}{size bytes:Nat}(h:On P t e size bytes=true):tc P t e size bytes:=by
 unfold On at h;simp only[QY] at h;obtain⟨h1,a⟩:=h;split at h1
 ·rename_i j he;split at a
  ·rename_i inf hi;simp only[QY] at a;obtain⟨b,c,f,g⟩:=a;split at b
   ·rename_i v i;have:=Q0 h1;subst this;exact⟨inf,v,he,hi,i,Q0 b,Q0 c,Q0 f,by simp[SF] at g;omega⟩
   ·cases b
  ·cases a
 ·cases h1
variable {P:hQ}{t:ic}{bytes:Nat}
abbrev Grown (s s':Sl)(H H':aa):Prop:=Mod (ai s) H H'/\(∀b,ai s' b->ai s b\/H.size<=b)
theorem aF.append (he:tc P t e E.size bytes){ty:ic}{x:Sl}{r:List α}{K:Sl->aa->Prop}(h:aF E e H s l)(i:bX E H x.a r)(a:x.n=r.length)
  (hl:l.length+r.length<=1099511627776) (j:(l.length+r.length)*bytes<=140737488355328)
  (m:∀(s':Sl) (H':aa),aF E e H' s' (l++r)->Grown s s' H H'->(s'.a=none↔s.a=none/\r.length=0)->K s' H'):bf aq P (QM #[t,t] ty #[s.v,x.v]) H K:=by
 obtain⟨inf,z,n,hi,o,b,hs,c,p⟩:=he;have f:=aF.n h p;refine oH (base:=0) (xs:=E.all l) (ws:=E.all r) n hi o b (by omega) (by rw[hs];exact h) (by rw[E.cj,a,hs]) i (E.Dw r) (by omega) (by rw[c,f,a];exact j) (Q5 _) ?_;intro s' H' h1 g q u v;refine m s' H' ?_ ⟨q,u⟩ (by rw[v,a]);rw[hs,<-E.all_append] at g;exact g
theorem aF.push (he:tc P t e E.size bytes){ty:ic}{x:α}{cs:Array gp}{K:Sl->aa->Prop}(h:aF E e H s l)(a:cs.toList=E.enc x)
  (hl:l.length+1<=1099511627776) (f:(l.length+1)*bytes<=140737488355328)
  (m:∀(s':Sl) (H':aa),aF E e H' s' (l++[x])->Grown s s' H H'->s'.a≠none->K s' H'):
  aG H cs e λp H1=>bf aq P (QM #[t,t] ty #[s.v,.slice (some p) 1 1]) H1 K:=by
 have hm:Mod (λ_=>False) H (H.push (.cells cs e)):=Mod.push _ _ _;refine aF.append he (s:=s) (x:=⟨some ⟨H.size,0,none⟩,1,1⟩) (r:=[x]) (aO.ext h hm) ?_ rfl (by simpa using hl) (by simpa using f) ?_
 ·intro i v g;simp only[eZ.all,RC,List.flatMap_nil,Tl] at g;exact⟨_,rfl,by rw[bg];exact cC (c:=cs) (t:=e) (fz:=(0,0)) (by simp) (by rw[<-a] at g;simpa using g)⟩
 ·intro s' H' h1 j n;refine m s' H' h1 ⟨(Ext.mod hm).trans j.1,λb f=>(j.2 b f).imp id λq=>?_⟩ (λq=>by have:=(n.1 q).2;simp at this);simp at q;omega
theorem aF.CF (he:tc P t e E.size bytes){ty:ic}{x:α}{cs:Array gp}{K:Sl->aa->Prop}(h:aF E e H s l)(a:cs.toList=E.enc x)
  (hl:l.length+1<=1099511627776) (b:(l.length+1)*bytes<=140737488355328) (J:aa->Prop) (c:∀H1,H1.size=H.size+1->Mod (λ_=>False) H H1->J H1)
  (f:∀(s':Sl) (H':aa),aF E e H' s' (l++[x])->Grown s s' H H'->s'.a≠none->K s' H'):
  aG H cs e λp H1=>J H1/\bf aq P (QM #[t,t] ty #[s.v,.slice (some p) 1 1]) H1 K:=
 ⟨c _ (by simp) (Mod.push _ _ _),aF.push he h a hl b f⟩
theorem BU (off:Nat)(v:List gp):∀(o:Nat) (cs:Array gp),off+o+v.length<=cs.size->(v.zipIdx o).foldl (λcs (p:gp×Nat)=>cs.setIfInBounds (off+p.2) p.1) cs=(cs.toList.take (off+o)++v++cs.toList.drop (off+o+v.length)).toArray:=by
 induction v with
 |nil=>intro o cs _;simp
 |cons a v b=>
   intro o cs h;simp only[Rr] at h;rw[List.zipIdx_cons,Tx,b (o+1) _ (by simp;omega)];have e:=list_seg_step cs.toList (off+o) a v (by simp;omega);simpa[Xy] using e
theorem nT {place:Nat->Option (Nat×Nat)}{cells:Array gp}{i off n:Nat}{v:gp}{rest:List (Nat×gp)}(a:place i=some (off,n))(b:v.cells.size=n)(f:off+n<=cells.size):
  TF place cells ((i,v)::rest)=TF place (cells.toList.take off++v.cells.toList++cells.toList.drop (off+n)).toArray rest:=by
 have c:=BU off v.cells.toList 0 cells (by simp;omega);simp only[TF,a];rw[if_neg (by simp;omega),<-Array.foldl_toList,Array.toList_zipIdx];rw[c];simp[b]
theorem Cw {n:Nat}{cs base:Array gp}(b:base.size=n)(a:cs.size=n):TF (λi=>some (i*n,n)) base [(0,.agg cs)]=some cs:=by
 rw[nT (off:=0) (n:=n) (v:=.agg cs) (by simp) a (by omega)];simp only[TF];rw[RL (by simp;omega)];have:(Z7 cs).cells=cs:=rfl;simp[this]
theorem aF.Ib (he:tc P t e E.size bytes){ty:ic}{x:α}{cs:Array gp}{K:Sl->aa->Prop}(h:aF E e H s l)(b:cs.toList=E.enc x)(g:E.size<=16777216)
  (hl:l.length+1<=1099511627776) (i:(l.length+1)*bytes<=140737488355328) (J:aa->Prop)
  (j:∀H1,H1.size=H.size+1->Mod (λ_=>False) H H1->J H1)
  (m:∀(s':Sl) (H':aa),aF E e H' s' (l++[x])->Grown s s' H H'->s'.a≠none->K s' H'):
  bf aq P (R2 t 1 #[(0,.agg cs)]) H λsl H1=>J H1/\bf aq P (QM #[t,t] ty #[s.v,sl.v]) H1 K:=by
 obtain⟨inf,z,o,hi,p,q,hs,u,A⟩:=id he;have v:cs.size=E.size:=by rw[<-E.len x,<-b];simp
 intro w hw;subst hw;have a:=Cw (n:=inf.size) (cs:=cs) (base:=(Array.range (1*inf.size)).map (z.cells[·%z.cells.size]!)) (by simp) (by omega);have c:(R2 t 1 #[(0,.agg cs)]).run P w=.ok (.slice (some ⟨w.heap.size,0,none⟩) 1 1) {w with heap:=w.heap.push (.cells cs e)}:=by
  have y:¬(1*inf.size>2^24):=by omega
  have f:inf.size≠0:=by omega
  simp[R2,run_underlying o,sizeOf,typeInfo,hi,f,zeroValue,p,newRow,newObj,SR];rw[if_neg (by omega)];simp[Nat.one_mul] at a;simp[a,Sn,SR]
 refine⟨_,_,c,⟨⟨some ⟨w.heap.size,0,none⟩,1,1⟩,rfl,j _ (by simp) (Mod.push _ _ _),?_⟩,(.of_le rfl (QN _))⟩;exact aF.push he h b hl i m
theorem bf.mono {c:fg}{q:Sem gp}{K K':c.α->aa->Prop}(h:bf c P q H K)(hk:∀x H',K x H'->K' x H'):bf c P q H K':=λw hw=>by
 obtain⟨v,w',h1,⟨x,a,b⟩,f⟩:=h w hw;exact⟨v,w',h1,⟨x,a,hk _ _ b⟩,f⟩
theorem aF.Df (he:tc P t e E.size bytes){ty:ic}{x:α}{cs:Array gp}{K:Sl->aa->Prop}(h:aF E e H s l)(a:cs.toList=E.enc x)(b:E.size<=16777216)
  (hl:l.length+1<=1099511627776) (c:(l.length+1)*bytes<=140737488355328)
  (f:∀(s':Sl) (H':aa),aF E e H' s' (l++[x])->Grown s s' H H'->s'.a≠none->K s' H'):
  bf aq P (R2 t 1 #[(0,.agg cs)]) H λsl H1=>bf aq P (QM #[t,t] ty #[s.v,sl.v]) H1 K:=
 (aF.Ib he h a b hl c (λ_=>True) (λ_ _ _=>trivial) f).mono λ_ _ h=>h.2
theorem Mw (he:tc P t e E.size bytes){K:Sl->aa->Prop}(c:∀(s':Sl) (H':aa),aF E e H' s' []->Mod (λ_=>False) H H'->(∀b,ai s' b->H.size<=b)->s'.a≠none->K s' H'):bf aq P (R2 t 0 #[]) H K:=by
 obtain⟨inf,z,f,hi,m,g,hs,h,n⟩:=he;intro w hw;subst hw;have a:(R2 t 0 #[]).run P w=.ok (.slice (some ⟨w.heap.size,0,none⟩) 0 0) {w with heap:=w.heap.push (.cells #[] e)}:=by
  simp[R2,run_underlying f,sizeOf,typeInfo,hi,newRow,newObj,TF,SR,Sn];congr 2;exact VF (by simp)
 refine⟨_,_,a,⟨⟨some ⟨w.heap.size,0,none⟩,0,0⟩,rfl,c _ _ ?_ (Mod.push _ _ _) ?_ (by simp)⟩,(.of_le rfl (QN _))⟩
 ·exact aO.fresh (Q5 _) (QN _) (by unfold maxLen;omega) (by simp) (by simp[eZ.all]) (by simp[eZ.all])
 ·rintro b ⟨ad,i,j⟩;cases i;have:w.heap.size=b:=j;omega
theorem aF.st {K:aa->Prop}(h:aF E e H s l){ad:hY}(m:s.a=some ad){i j:Nat}{x y:α}{v:gp}(hi:l[i]?=some x)(A:j<E.size)(B:jJ v=true)(C:E.enc y=(E.enc x).set j v){n:Nat}(D:n=i*E.size)
  (F:∀H',aF E e H' s (l.set i y)->Mod (ai s) H H'->H'.size=H.size->K H'):pw H ((ad.add n).add j) v K:=by
 subst D;have b:i<l.length:=(QJ.1 hi).1;have hlen:=E.cj l;have G:i*E.size+j<l.length*E.size:=by
  have:=Rq E.size (Ub b);rw[RQ] at this;omega
 rcases h.2 with ⟨f,Q⟩|⟨g,cap,cur,f,I,p,u,J,w,L⟩
 ·cases s;simp only[Sl.v,Q2] at f m;rw[f.1] at m;cases m
 ·have z:s.a=some ⟨g,0,none⟩:=by
   cases s;simp only[Sl.v,Q2] at f;exact f.1
  rw[z] at m;cases m;have M:=h.1;have q:i*E.size+j<cur.size:=by
   have:=Rq E.size u;rw[w];omega
  rw[add_add,bg];refine⟨B,⟨_,cC p (Rn q)⟩,dJ p,F _ ?_ (Mod.set ⟨_,z,rfl⟩) (iS _ _ _)⟩;have c:(E.all l).set (i*E.size+j) v=E.all (l.set i y):=by
   rw[E.xU l i y b,C];have N:(E.all l)=(E.all l).take (i*E.size)++E.enc x++(E.all l).drop (i*E.size+E.size):=by
    have:=E.xU l i x b;have o:l[i]=x:=by rw[QK b] at hi;exact Rc hi
    rwa [<-o,List.set_getElem_self,o] at this
   have O:((E.all l).take (i*E.size)).length=i*E.size:=by
    rw[Ro,hlen];have:=Rq E.size (Nat.le_of_lt b);omega
   conv=>lhs;rw[N]
   rw[RD,V3 _ _ (by omega),O,Nat.add_sub_cancel_left,List.set_append_left _ _ (by rw[E.len];exact A),RD]
  refine⟨by rw[<-c];simpa using h.1,.inr ⟨g,cap,cur.setIfInBounds (i*E.size+j) v,f,I,pJ (a:=⟨g,i*E.size+j,none⟩) p rfl,u,J,by simpa using w,?_⟩⟩;rw[<-c,<-L];simp[Yu]
theorem aF.Oe {ty:ic}{cs:Array gp}{K:aa->Prop}(h:aF E e H s l){ad:hY}(j:s.a=some ad){i:Nat}{y:α}(m:i<l.length)(a:cs.toList=E.enc y)(hi:nk P ty E.size=true){n:Nat}(w:n=i*E.size)
  (x:∀H',aF E e H' s (l.set i y)->Mod (ai s) H H'->H'.size=H.size->K H'):jo P (Q3 ty (.pointer (some (ad.add n))) (.agg cs)) H K:=by
 subst w;have hlen:=E.cj l;have c:cs.size=E.size:=by rw[<-E.len y,<-a];simp
 have z:i*E.size+E.size<=l.length*E.size:=by
  have:=Rq E.size (Ub m);rw[RQ] at this;omega
 rcases h.2 with ⟨f,M⟩|⟨g,cap,cur,f,p,A,q,B,C,D⟩
 ·cases s;simp only[Sl.v,Q2] at f j;rw[f.1] at j;cases j
 ·have u:s.a=some ⟨g,0,none⟩:=by
   cases s;simp only[Sl.v,Q2] at f;exact f.1
  rw[u] at j;cases j;have F:=h.1;have G:i*E.size+E.size<=cur.size:=by
   have:=Rq E.size q;rw[C];omega
  rw[bg];refine jy (b:=g) (o:=i*E.size) (cur:=cur) (t:=e) A (by rw[c];exact hi) (by omega) (by rw[a];exact E.one y) λH' I r2 J=>x H' ?_ (r2.mono λb _ p=>⟨_,u,p.symm⟩) J;refine⟨by simpa[E.cj] using h.1,.inr ⟨g,cap,_,f,p,I,q,B,?_,?_⟩⟩
  ·simp[c];omega
  ·rw[E.xU l i y m,<-D,a];simp only[c];have v:(cur.toList.take (i*E.size)).length=i*E.size:=by simp;omega
   have L:i*E.size+E.size<=s.n*E.size:=by omega
   rw[List.take_append,QS (by simp[v,E.len];omega),List.take_take,TL (by omega)];congr 1;rw[Ri,v,E.len,List.take_drop];congr 2;omega
end
section
open Go.MapKept
theorem oy {es:Array nW}{clk:Nat}(h:Stamped es clk):es.toList.Nodup:=by
 have:=h.2.1;unfold List.Nodup at this ⊢;rw[List.pairwise_map] at this;exact this.imp λa e=>a (by rw[e])
theorem qi {es:Array nW}{clk:Nat}(h:Stamped es clk){x y:nW}(m:x∈es.toList)(n:y∈es.toList)(c:x.born=y.born):x=y:=by
 have key:∀l:List nW,(l.map (·.born)).Nodup->x∈l->y∈l->x=y:=by
  intro l
  induction l with
  |nil=>intro _ h;cases h
  |cons a l o=>
    intro b h1 p;rw[Q7,To] at b;rcases QX.1 h1 with f|g<;>rcases QX.1 p with i|j
    ·rw[f,i]
    ·exact absurd (by rw[<-f,c];exact TN j) b.1
    ·exact absurd (by rw[<-i,<-c];exact TN g) b.1
    ·exact o b.2 g j
 exact key _ h.2.1 m n
theorem zm {es:Array nW}{clk:Nat}(h:Stamped es clk){x y:nW}(m:x∈es.toList)(n:y∈es.toList)(c:x.key=y.key):x=y:=by
 have key:∀l:List nW,(l.map (·.key)).Nodup->x∈l->y∈l->x=y:=by
  intro l
  induction l with
  |nil=>intro _ h;cases h
  |cons a l o=>
    intro b h1 p;rw[Q7,To] at b;rcases QX.1 h1 with f|g<;>rcases QX.1 p with i|j
    ·rw[f,i]
    ·exact absurd (by rw[<-f,c];exact TN j) b.1
    ·exact absurd (by rw[<-i,<-c];exact TN g) b.1
    ·exact o b.2 g j
 exact key _ h.2.2 m n
theorem ry {P:hQ}{d:nH}{H:aa}{r:Nat}{es:Array nW}{clk it:Nat}{α:Type}{x0:α}{ty:ic}
  {B:(α->aa->Prop)->α->(gp×gp)->aa->Prop} {E:α->aa->Prop} (I:List nW->α->aa->Prop)
  (hm:ct d H r es clk) (J:H[it]?=some (.mapIter (some r) clk #[] clk)) (V:I [] x0 H)
  (K:∀l x A f,I l x A->Mod (λb=>b=it) A f->f.size=A.size->I l x f)
  (hs:∀l e x A next,I l x A->e∈es.toList->e∉l->(∀y∈l,y∈es.toList)->l.Nodup->A[r]?=some (.map es clk)->(∃o,A[it]?=some o)->
   (∀x' f,I (l++[e]) x' f->f[r]?=A[r]?->f[it]?=A[it]?->next x' f)->B next x (e.key,e.val) A)
  (W:∀l x A,I l x A->l.Perm es.toList->A[r]?=some (.map es clk)->E x A):
  ay α x0 H (λnext x X=>bf gM P (SO (.pointer (some ⟨it,0,none⟩)) false ty) X λ(Y:Bool×List gp) S=>
   br Y.1 (bf pS P (Sr (.pointer (some ⟨it,0,none⟩))) S λ(Z:gp×gp) H4=>B next x Z H4) (E x S)):=by
 have i:=hm.stamped;have L:=oy i;refine⟨List nW,λl x A=>I l x A/\A[it]?=some (.mapIter (some r) clk (l.map (·.born)).toArray clk)/\A[r]?=some (.map es clk)/\l.Nodup/\(∀y∈l,y∈es.toList),λl=>es.size - l.length,⟨[],V,by simpa using J,hm.obj,Zz,by simp⟩,?_⟩;rintro l x A ⟨T,hi,p,hl,c⟩;have u:ct d A r es clk:=⟨p,i,hm.keys⟩;have v:r≠it:=by intro e;rw[<-e,p] at hi;cases hi
 refine Gj u hi ?_ ?_
 ·intro e he w f j g M;have m:e∉l:=λh=>by
   have:(l.map (·.born)).toArray.contains e.born=true:=by simp;exact⟨e,h,rfl⟩
   rw[this] at w;cases w
  have C:f[r]?=some (.map es clk):=(g.same r (aI p) v).trans p;refine E5 (u.mod g v) j he ?_;refine hs l e x f _ (K l x A f T g M) he m c hl C ⟨_,j⟩ λx' af D h1 h2=>⟨l++[e],⟨D,?_,by rw[h1];exact C,?_,?_⟩,?_⟩
  ·rw[h2,j];simp
  ·rw[Sz];exact⟨hl,by simp,by intro a N b F;simp at F;subst F;intro O;subst O;exact m N⟩
  ·intro y n;rcases QQ.1 n with q|q
   ·exact c y q
   ·simp at q;subst q;exact he
  ·have Q:(l++[e]).length<=es.toList.length:=by
    refine TA ?_ ?_
    ·rw[Sz];exact⟨hl,by simp,by intro a N b F;simp at F;subst F;intro O;subst O;exact m N⟩
    ·intro y n;rcases QQ.1 n with q|q
     ·exact c y q
     ·simp at q;subst q;exact he
   simp at Q ⊢;omega
 ·intro G;refine W l x A T ?_ p;rw[SU hl L];intro y;refine⟨c y,λn=>?_⟩;have h1:=G y n;simp at h1;obtain⟨z,U,R⟩:=h1;have:=qi i (c z U) n R;rw[<-this];exact U
end
abbrev Pg:={l:List UInt8 // l.length=512}
def IB:Pg:=⟨Q6 512 0,List.length_replicate⟩
structure Wr where
 no:Int
 page:Nat
 b:Pg
structure Fl where
 name:ByteArray
 synced:List Pg
 log:List Wr
structure Dk where
 files:List Fl
 most:Nat
 quota:Nat
 ops:Int
 next:Int
 crash:Option (Int×Int)
 down:Bool
def dZ (l:List Pg)(w:Wr):List Pg:=(l++Q6 (w.page+1 - l.length) IB).set w.page w.b
def Fl.az (f:Fl):List Pg:=f.log.foldl dZ f.synced
def Dk.idx (s:Dk)(n:ByteArray):Option Nat:=s.files.findIdx? λf=>f.name.toList==n.toList
def Dk.used (s:Dk):Nat:=(s.files.map λf=>f.az.length).sum
def Dk.file (s:Dk)(i:Nat):Fl:=s.files.getD i ⟨Tn,[],[]⟩
def fT (x:Int):Int:=QI.wrap x
def Dk.IL (t:Dk)(i:Nat)(u:Fl->Fl):Dk:={t with files:=t.files.modify i u}
def Dk.gI (t:Dk)(i:Nat)(w:Wr):Dk:=⟨t.files.modify i (λf=>{f with log:=f.log++[w]}),t.most,t.quota,t.ops,fT (t.next+1),t.crash,t.down⟩
def Dk.jw (t:Dk)(m:Nat):Dk:=⟨t.files,m,t.quota,t.ops,t.next,t.crash,t.down⟩
def named (n:ByteArray):Bool:=decide (1<=n.size)&&decide (n.size<=100)
def Dk.change (s:Dk):Dk×Int:=
 match s.crash with
 |none=>({s with ops:=fT (s.ops+1)},0)
 |some (i,k)=>if i=0 then ({s with down:=true},4) else ({s with crash:=some (fT (i - 1),k),ops:=fT (s.ops+1)},0)
def Dk.step (s:Dk)(f:Dk->Dk):Dk×Int:=if s.change.2=0 then (f s.change.1,0) else s.change
def Dk.open (s:Dk)(n:ByteArray):Option Nat×Int:=
 if s.down then (none,4) else match s.idx n with|some i=>(some i,0)|none=>(none,11)
def Dk.create (s:Dk)(n:ByteArray):Dk×Int:=
 if s.down then (s,4) else if named n=false then (s,2) else if (s.idx n).isSome then (s,10) else if s.files.length=4096 then (s,3)
 else s.step λt=>{t with files:=t.files++[⟨n,[],[]⟩]}
def Dk.drop (s:Dk)(n:ByteArray):Dk:=match s.idx n with|some i=>{s with files:=s.files.eraseIdx i}|none=>s
def Dk.remove (s:Dk)(n:ByteArray):Dk×Int:=
 if s.down then (s,4) else if (s.idx n).isNone then (s,11) else s.step λt=>t.drop n
def Dk.write (s:Dk)(n:ByteArray)(page:Int)(b:List UInt8):Dk×Int:=
 if s.down then (s,4) else if h:b.length=512 then
  match s.idx n with
  |none=>(s,11)
  |some i=>
    if page<0\/page>(s.file i).az.length then (s,12)
    else if page=(s.file i).az.length/\s.used>=s.quota then (s,5)
    else s.step λt=>(t.gI i ⟨t.next,page.toNat,⟨b,h⟩⟩).jw (max t.most (t.gI i ⟨t.next,page.toNat,⟨b,h⟩⟩).used)
 else (s,2)
def Dk.read (s:Dk)(n:ByteArray)(page:Int):List UInt8×Int:=
 match s.open n with
 |(some i,_)=>if page<0 then ([],12) else match ((s.file i).az)[page.toNat]? with|some p=>(p.1,0)|none=>([],12)
 |(none,e)=>([],e)
def Dk.len (s:Dk)(n:ByteArray):Nat×Int:=
 match s.open n with
 |(some i,_)=>((s.file i).az.length,0)
 |(none,e)=>(0,e)
def Dk.sync (s:Dk)(n:ByteArray):Dk×Int:=
 if s.down then (s,4) else match s.idx n with
  |none=>(s,11)
  |some i=>s.step λt=>t.IL i λf=>{f with synced:=f.az,log:=[]}
def Dk.dj (s:Dk)(i k:Int):Dk:=if s.down then s else {s with crash:=some (max i 0,k)}
def Dk.IV (s:Dk):List Int:=s.files.flatMap λf=>f.log.map (·.no)
def Dk.zk (s:Dk)(no:Int):Nat:=(s.IV.filter λx=>decide (x<no)).length
def jB (k:Int)(r:Nat):Bool:=mS .u64 (dQ .u64 k (Int.tmod (r:Int) 64)) 1==1
def Dk.ar (s:Dk):Int:=match s.crash with|some (_,k)=>k|none=>0
def Dk.after (s:Dk)(f:Fl):Fl:=⟨f.name,(f.log.filter λw=>jB s.ar (s.zk w.no)).foldl dZ f.synced,[]⟩
def Dk.c8 (s:Dk):Dk:=if s.down then {s with files:=s.files.map s.after,down:=false,crash:=none} else s
def oe (q:Int):Dk:=⟨[],0,(min (max q 0) 1048576).toNat,0,0,none,false⟩
def names (s:Dk):List ByteArray:=s.files.map (·.name)
structure Dk.WF (s:Dk):Prop where
 nodup:(s.files.map λf=>f.name.toList).Nodup
 used:s.used<=s.most
 most:s.most<=s.quota
 quota:s.quota<=1048576
 files:s.files.length<=4096
 down:s.down=true->s.crash.isSome
 cin:∀i k,s.crash=some (i,k)->0<=i/\i<=9223372036854775807
def Dk.aH (s:Dk):Nat:=(s.files.map λf=>f.log.length).sum
theorem di (l:List Pg)(w:Wr):(dZ l w).length=max l.length (w.page+1):=by
 simp[dZ];omega
theorem mV (ws:List Wr):∀l:List Pg,l.length<=(ws.foldl dZ l).length:=by
 induction ws with
 |nil=>intro l;exact QN _
 |cons w ws a=>intro l;exact QZ (by rw[di];omega) (a (dZ l w))
theorem w5 (ws:List Wr)(p:Wr->Bool):∀l r:List Pg,l.length<=r.length->((ws.filter p).foldl dZ l).length<=(ws.foldl dZ r).length:=by
 induction ws with
 |nil=>intro l r h;exact h
 |cons w ws a=>
   intro l r h;rw[S0];split
   ·exact a _ _ (by rw[di,di];omega)
   ·exact a _ _ (by rw[di];omega)
theorem oK {α:Type}(f g:α->Nat)(l:List α)(h:∀x∈l,f x<=g x):(l.map f).sum<=(l.map g).sum:=by
 induction l with
 |nil=>simp
 |cons a l b=>
   simp only[Q7,RS];exact Nat.add_le_add (h a Q9) (b λx c=>h x (Q8 _ c))
theorem ke {α:Type}(f:α->Nat):∀(l:List α) (i:Nat) (x:α),l[i]?=some x->((l.eraseIdx i).map f).sum+f x=(l.map f).sum
 |[],i,x,h=>by simp at h
 |a::l,0,x,h=>by simp at h;subst h;simp;omega
 |a::l,i+1,x,h=>by
   have:=ke f l i x (by simpa using h);simp only[List.eraseIdx_cons_succ,Q7,RS];omega
theorem fK {α:Type}(f:α->Nat)(g:α->α):∀(l:List α) (i:Nat) (x:α),l[i]?=some x->((l.modify i g).map f).sum+f x=(l.map f).sum+f (g x)
 |[],i,x,h=>by simp at h
 |a::l,0,x,h=>by simp at h;subst h;simp;omega
 |a::l,i+1,x,h=>by
   have:=fK f g l i x (by simpa using h);simp only[UM,Q7,RS];omega
theorem l8 {α:Type}(f:α->Nat)(l:List α)(i:Nat)(x:α)(h:l[i]?=some x):f x<=(l.map f).sum:=by
 have:=ke f l i x h;omega
theorem eM {α:Type}{l:List α}{i:Nat}{a:α}{g:α->α}(h:l[i]?=some a):(l.modify i g)[i]?=some (g a):=by
 rw[W5,h];simp
theorem eP {α:Type}{l:List α}{i j:Nat}{g:α->α}(h:i≠j):(l.modify i g)[j]?=l[j]?:=by
 rw[W5];simp[h]
theorem bm {α:Type}{l:List α}{i:Nat}{a:α}{g:α->α}(h:l[i]?=some a):l.modify i g=l.set i (g a):=by
 have hi:=(QJ.1 h).1;apply Sy;intro j;by_cases b:i=j
 ·subst b;rw[eM h];simp[hi]
 ·rw[eP b,Rx,if_neg b]
theorem ig {a b:ByteArray}(h:a.toList=b.toList):a=b:=by
 rw[VN,VN] at h;exact Xz (Za.1 h)
theorem MM {a b:ByteArray}:a.toList=b.toList↔a=b:=⟨ig,λh=>by rw[h]⟩
theorem Dk.cw {s:Dk}{n:ByteArray}{i:Nat}(h:s.idx n=some i):∃f,s.files[i]?=some f/\f.name=n:=by
 unfold Dk.idx at h;rw[SM] at h;obtain⟨h1,a,_⟩:=h;exact⟨s.files[i],QK h1,ig (by simpa using a)⟩
theorem Dk.tD {s:Dk}{n:ByteArray}(h:s.idx n=none):∀f∈s.files,f.name≠n:=by
 unfold Dk.idx at h;rw[Tc] at h;intro f a e;have:=h f a;rw[e] at this;simp at this
theorem Dk.WF.inj {s:Dk}(h:s.WF){i j:Nat}{f g:Fl}(hi:s.files[i]?=some f)(b:s.files[j]?=some g)(e:f.name=g.name):i=j:=by
 have h1:=h.nodup;have a:=(QJ.1 hi).1;refine(UX (l:=s.files.map λf=>f.name.toList) (by simpa using a) h1).1 ?_;rw[QV,QV,hi,b];simp[e]
theorem Dk.idx_eq {s:Dk}(hw:s.WF){i:Nat}{f:Fl}(h:s.files[i]?=some f):s.idx f.name=some i:=by
 cases a:s.idx f.name with
 |none=>exact absurd rfl (Dk.tD a f (QL h))
 |some j=>
   obtain⟨g,b,he⟩:=Dk.cw a;rw[hw.inj b h he]
theorem Dk.dI {s:Dk}{i:Nat}{f:Fl}(h:s.files[i]?=some f):s.file i=f:=by simp[Dk.file,h]
theorem Dk.jA {s:Dk}{i:Nat}{f:Fl}{g:Fl->Fl}(a:s.files[i]?=some f):(s.IL i g).used+f.az.length=s.used+(g f).az.length:=
 fK (λf:Fl=>f.az.length) g s.files i f a
theorem Dk.fm {s:Dk}{i:Nat}{f:Fl}(a:s.files[i]?=some f):f.az.length<=s.used:=l8 (λf:Fl=>f.az.length) s.files i f a
theorem Fl.vS (f:Fl):f.synced.length<=f.az.length:=mV f.log f.synced
theorem Dk.kM {s:Dk}{i:Nat}{f:Fl}(a:s.files[i]?=some f):f.log.length<=s.aH:=l8 (λf:Fl=>f.log.length) s.files i f a
theorem Dk.WF.modify {s t:Dk}(h:s.WF){i:Nat}{f:Fl}{g:Fl->Fl}(b:s.files[i]?=some f)(n:(g f).name=f.name)(c:t.files=s.files.modify i g)(hu:t.used<=t.most)(hm:t.most<=t.quota)(o:t.quota=s.quota)(m:t.crash=s.crash)(hd:t.down=s.down):t.WF:=by
 refine⟨?_,hu,hm,by rw[o];exact h.quota,by rw[c];simp;exact h.files,by rw[hd,m];exact h.down,by rw[m];exact h.cin⟩;rw[c];have:(s.files.modify i g).map (λf=>f.name.toList)=s.files.map (λf=>f.name.toList):=by
  rw[bm b];apply Sy;intro j;rw[QV,QV];by_cases a:i=j
  ·subst a;have hi:=(QJ.1 b).1;rw[b];simp[hi,n]
  ·rw[Rx,if_neg a]
 rw[this];exact h.nodup
section
open Go.MapKept
def gP (p:List UInt8):List gp:=p.map λx=>.int .u8 (x.toNat:Int)
def cP (l:List UInt8):ByteArray:=⟨l.toArray⟩
def vj:eZ Pg:=⟨512,λp=>gP p.1,λp=>by rw[gP,Rg];exact p.2,λp u hu=>by obtain⟨x,_,rfl⟩:=QW.1 hu;rfl⟩
def yp:eZ Wr:=⟨514,λw=>.int .i64 w.no::.int .i64 w.page::gP w.b.1,λw=>by simp only[Rr,gP,Rg,w.b.2],λw u hu=>by
 rcases QX.1 hu with e|hu
 ·rw[e];rfl
 ·rcases QX.1 hu with e|hu
  ·rw[e];rfl
  ·obtain⟨x,_,rfl⟩:=QW.1 hu;rfl⟩
structure FG where
 p:Nat
 now:Sl
 syn:Sl
 log:Sl
def FG.fp (g:FG)(b:Nat):Prop:=b=g.p\/ai g.now b\/ai g.syn b\/ai g.log b
structure cO (H:aa)(g:FG)(f:Fl):Prop where
 row:ao H g.p Ew #[g.now.v,g.syn.v,g.log.v]
 now:aF vj vX H g.now f.az
 syn:aF vj vX H g.syn f.synced
 log:aF yp sS H g.log f.log
 apart:∀b,ai g.now b->¬ai g.syn b
theorem cO.lt {H:aa}{g:FG}{f:Fl}(h:cO H g f):∀b,g.fp b->b<H.size:=by
 rintro b (rfl|a|a|a)
 ·exact aI h.row
 ·exact h.now.lt b a
 ·exact h.syn.lt b a
 ·exact h.log.lt b a
theorem cO.ar {H H':aa}{g:FG}{f:Fl}(h:cO H g f)(k:∀b,g.fp b->b<H.size->H'[b]?=H[b]?):cO H' g f:=
 ⟨(k _ (.inl rfl) (aI h.row)).trans h.row,h.now.ar λb a=>k b (.inr (.inl a)),h.syn.ar λb a=>k b (.inr (.inr (.inl a))),h.log.ar λb a=>k b (.inr (.inr (.inr a))),h.apart⟩
theorem cO.obj {H:aa}{g:FG}{f:Fl}(h:cO H g f):∀b,g.fp b->∃cs t,H[b]?=some (.cells cs t (0,0))/\(t=Ew\/t=vX\/t=sS):=by
 rintro b (rfl|a|a|a)
 ·exact⟨_,_,h.row,.inl rfl⟩
 ·obtain⟨c,q⟩:=h.now.obj b a;exact⟨c,_,q,.inr (.inl rfl)⟩
 ·obtain⟨c,q⟩:=h.syn.obj b a;exact⟨c,_,q,.inr (.inl rfl)⟩
 ·obtain⟨c,q⟩:=h.log.obj b a;exact⟨c,_,q,.inr (.inr rfl)⟩
structure DG where
 m:Nat
 es:Array nW
 clk:Nat
 gs:List FG
def DG.fp (x:DG)(b:Nat):Prop:=b=x.m\/∃g∈x.gs,g.fp b
def dt (p:Nat):gp:=.pointer (some ⟨p,0,none⟩)
structure bj (H:aa)(x:DG)(fs:List Fl):Prop where
 map:ct .string H x.m x.es x.clk
 len:x.gs.length=fs.length
 size:x.es.size=fs.length
 ent:∀(i:Nat) (f:Fl) (g:FG),fs[i]?=some f->x.gs[i]?=some g->fw x.es (.string f.name) (dt g.p)/\cO H g f
 ent':∀k v,fw x.es k v->∃(i:Nat) (f:Fl) (g:FG),fs[i]?=some f/\x.gs[i]?=some g/\k=.string f.name/\v=dt g.p
 apart:∀(i j:Nat) (g g':FG),x.gs[i]?=some g->x.gs[j]?=some g'->i≠j->∀b,g.fp b->¬g'.fp b
theorem bj.Dl {H:aa}{x:DG}{fs:List Fl}(h:bj H x fs){i:Nat}{f:Fl}(hi:fs[i]?=some f):∃g,x.gs[i]?=some g/\fw x.es (.string f.name) (dt g.p)/\cO H g f:=by
 have a:=(QJ.1 hi).1;have b:x.gs[i]?=some (x.gs[i]'(by rw[h.len];exact a)):=QK _;exact⟨_,b,h.ent i f _ hi b⟩
theorem bj.zO {H:aa}{x:DG}{fs:List Fl}(h:bj H x fs){i:Nat}{g:FG}(hi:x.gs[i]?=some g):∃f,fs[i]?=some f/\fw x.es (.string f.name) (dt g.p)/\cO H g f:=by
 have a:=(QJ.1 hi).1;have b:fs[i]?=some (fs[i]'(by rw[<-h.len];exact a)):=QK _;exact⟨_,b,h.ent i _ g b hi⟩
theorem bj.lt {H:aa}{x:DG}{fs:List Fl}(h:bj H x fs):∀b,x.fp b->b<H.size:=by
 rintro b (rfl|⟨g,a,c⟩)
 ·exact h.map.lt
 ·obtain⟨i,hi⟩:=QU.1 a;obtain⟨f,_,_,q⟩:=h.zO hi;exact q.lt b c
theorem bj.ar {H H':aa}{x:DG}{fs:List Fl}(h:bj H x fs)(k:∀b,x.fp b->b<H.size->H'[b]?=H[b]?):bj H' x fs:=
 ⟨h.map.ar (k _ (.inl rfl) h.map.lt),h.len,h.size,λi f g c a=>⟨(h.ent i f g c a).1,(h.ent i f g c a).2.ar λb j=>k b (.inr ⟨g,QL a,j⟩)⟩,h.ent',h.apart⟩
theorem bj.xZ {H:aa}{x:DG}{fs:List Fl}(h:bj H x fs){g:FG}(a:g∈x.gs):¬g.fp x.m:=by
 intro b;obtain⟨i,hi⟩:=QU.1 a;obtain⟨f,_,_,q⟩:=h.zO hi;obtain⟨cs,t,e,_⟩:=q.obj _ b;rw[h.map.obj] at e;cases e
theorem bj.NM {H H':aa}{x:DG}{fs:List Fl}(h:bj H x fs){i:Nat}{f f':Fl}{g g':FG}(J:fs[i]?=some f)(C:x.gs[i]?=some g)(M:g'.p=g.p)(N:f'.name=f.name)(S:cO H' g' f')
  (hm:∀b,x.fp b->¬g.fp b->b<H.size->H'[b]?=H[b]?) (B:∀b,g'.fp b->g.fp b\/H.size<=b):bj H' {x with gs:=x.gs.set i g'} (fs.set i f')/\(∀b,DG.fp {x with gs:=x.gs.set i g'} b->x.fp b\/H.size<=b):=by
 have D:=(QJ.1 J).1;have u:=(QJ.1 C).1;have F:=QL C;have others:∀j p,x.gs[j]?=some p->i≠j->∀b,p.fp b->¬g.fp b:=λj p T n b h1 m=>h.apart i j g p C T n b m h1;refine⟨⟨h.map.ar (hm _ (.inl rfl) (h.xZ F) h.map.lt),by simp[h.len],by simp[h.size],?_,?_,?_⟩,?_⟩
 ·intro j I p h1 m;rw[Rx] at h1;simp only[Rx] at m;by_cases n:i=j
  ·subst n;rw[if_pos rfl,if_pos D] at h1;rw[if_pos rfl,if_pos u] at m;cases h1;cases m;refine⟨?_,S⟩;rw[N,M];exact(h.ent i f g J C).1
  ·rw[if_neg n] at h1 m;refine⟨(h.ent j I p h1 m).1,(h.ent j I p h1 m).2.ar λb B y=>hm b (.inr ⟨p,QL m,B⟩) (others j p m n b B) y⟩
 ·intro k v K;obtain⟨j,I,p,h1,m,O,Q⟩:=h.ent' k v K;by_cases n:i=j
  ·subst n;rw[J] at h1;rw[C] at m;cases h1;cases m;exact⟨i,f',g',by simp[D],by simp[u],by rw[N];exact O,by rw[M];exact Q⟩
  ·exact⟨j,I,p,by rw[Rx,if_neg n];exact h1,by simp only[Rx];rw[if_neg n];exact m,O,Q⟩
 ·intro a c R gc h1 m z b o w;simp only[Rx] at h1 m;by_cases A:i=a
  ·subst A;rw[if_neg z] at m;rw[if_pos rfl,if_pos u] at h1;cases h1;have y:b<H.size:=by obtain⟨fc,_,_,q⟩:=h.zO m;exact q.lt b w
   rcases B b o with q|q
   ·exact others c gc m z b w q
   ·omega
  ·rw[if_neg A] at h1;have y:b<H.size:=by obtain⟨fc,_,_,q⟩:=h.zO h1;exact q.lt b o
   by_cases G:i=c
   ·subst G;rw[if_pos rfl,if_pos u] at m;cases m;rcases B b w with q|q
    ·exact others a R h1 A b o q
    ·omega
   ·rw[if_neg G] at m;exact h.apart a c R gc h1 m z b o w
 ·rintro b (rfl|⟨p,L,o⟩)
  ·exact .inl (.inl rfl)
  ·rcases List.mem_or_eq_of_mem_set L with q|q
   ·exact .inl (.inr ⟨p,q,o⟩)
   ·subst q;exact(B b o).imp (λq=>.inr ⟨g,F,q⟩) id
theorem bj.set {H H':aa}{x:DG}{fs:List Fl}(h:bj H x fs){i:Nat}{f f':Fl}{g g':FG}(c:fs[i]?=some f)(j:x.gs[i]?=some g)(m:g'.p=g.p)(a:f'.name=f.name)(n:cO H' g' f')
  (hm:Mod g.fp H H') (o:∀b,g'.fp b->g.fp b\/H.size<=b):bj H' {x with gs:=x.gs.set i g'} (fs.set i f')/\(∀b,DG.fp {x with gs:=x.gs.set i g'} b->x.fp b\/H.size<=b):=
 h.NM c j m a n (λb _ a hl=>hm.same b hl a) o
def fN (m:Nat)(used most quota ops next:Int)(laid:Bool)(cin kp:Int)(down:Bool):Array gp:=
 #[.map (some m),.int .i64 used,.int .i64 most,.int .i64 quota,.int .i64 ops,.int .i64 next,.bool laid,.int .i64 cin,.int .u64 kp,.bool down]
def kR (s:Dk)(cin kp:Int):Prop:=∀i k,s.crash=some (i,k)->cin=i/\kp=k
structure dy (x:DG)(cin kp:Int)(H:aa)(d:Nat)(s:Dk):Prop where
 head:ao H d yS (fN x.m s.used s.most s.quota s.ops s.next s.crash.isSome cin kp s.down)
 crash:kR s cin kp
 files:bj H x s.files
 wf:s.WF
def bw (F:Nat->Prop)(H:aa)(d:Nat)(s:Dk):Prop:=∃x cin kp,dy x cin kp H d s/\∀b,F b↔b=d\/x.fp b
structure Step (F F':Nat->Prop)(H H':aa):Prop where
 mod:Mod F H H'
 own:∀b,F' b->F b\/H.size<=b
theorem Step.refl (F:Nat->Prop)(H:aa):Step F F H H:=⟨.refl _ _,λ_ h=>.inl h⟩
theorem Step.trans {F G K:Nat->Prop}{A B C:aa}(h:Step F G A B)(k:Step G K B C):Step F K A C:=by
 refine⟨h.mod.trans' k.mod λb a c=>(h.own b c).resolve_right (by omega),λb a=>?_⟩;rcases k.own b a with q|q
 ·exact h.own b q
 ·exact .inr (QZ h.mod.size q)
theorem dy.mW {x:DG}{H:aa}{d:Nat}{fs:List Fl}{cs:Array gp}(hd:ao H d yS cs)(h:bj H x fs):¬x.fp d:=by
 rintro(e|⟨g,b,j⟩)
 ·have:=h.map.obj;rw[<-e,hd] at this;cases this
 ·obtain⟨i,hi⟩:=QU.1 b;obtain⟨f,_,_,q⟩:=h.zO hi;obtain⟨c,t,e,a⟩:=q.obj _ j;have:=aM hd e;rw[<-this] at a;exact absurd a (by decide)
theorem bw.lt {F:Nat->Prop}{H:aa}{d:Nat}{s:Dk}(h:bw F H d s):∀b,F b->b<H.size:=by
 obtain⟨x,cin,kp,g,a⟩:=h;intro b c;rcases (a b).1 c with rfl|q
 ·exact aI g.head
 ·exact g.files.lt b q
theorem bw.ar {F:Nat->Prop}{H H':aa}{d:Nat}{s:Dk}(h:bw F H d s)(k:∀b,F b->b<H.size->H'[b]?=H[b]?):bw F H' d s:=by
 obtain⟨x,cin,kp,g,a⟩:=h;exact⟨x,cin,kp,⟨(k d ((a d).2 (.inl rfl)) (aI g.head)).trans g.head,g.crash,g.files.ar λb c=>k b ((a b).2 (.inr c)),g.wf⟩,a⟩
theorem bw.wf {F:Nat->Prop}{H:aa}{d:Nat}{s:Dk}(h:bw F H d s):s.WF:=by
 obtain⟨x,cin,kp,g,a⟩:=h;exact g.wf
theorem dy.out {x x':DG}{cin kp:Int}{F:Nat->Prop}{H H':aa}{d:Nat}{s:Dk}(h:dy x' cin kp H' d s)(a:∀b,F b↔b=d\/x.fp b)(hm:Mod F H H')(c:∀b,x'.fp b->x.fp b\/H.size<=b):
  ∃F',bw F' H' d s/\Step F F' H H':=
 ⟨λb=>b=d\/x'.fp b,⟨x',cin,kp,h,λ_=>V4⟩,hm,by
  rintro b (e|q)
  ·exact .inl ((a b).2 (.inl e))
  ·exact(c b q).imp (λq=>(a b).2 (.inr q)) id⟩
theorem mT {d:Nat}{cs:Array gp}{down:Bool}{H:aa}{K:Int->aa->Prop}(h:ao H d yS cs)(hd:cs[9]?=some (.bool down))(a:K (if down then 4 else 0) H):Ft.sp (some ⟨d,0,none⟩) H K:=by
 refine Ft.of ?_;unfold Ft.vc;refine h.ld (c:=aC) (i:=9) (x:=down) hd ?_;cases down with
 |true=>exact a
 |false=>exact a
theorem Gm {n:ByteArray}{H:aa}{K:Bool->aa->Prop}(a:K (named n) H):Jf.sp n H K:=by
 refine Jf.of ?_;unfold Jf.vc;have e:((!(n.toList==Tn.toList))&&(decide ((n.size:Int)<=(100:Int))))=named n:=by
  unfold named;congr 1
  ·rw[Bool.eq_iff_iff];simp only[Bool.not_eq_true',beq_eq_false_iff_ne,ne_eq,decide_eq_true_eq];rw[MM];constructor
   ·intro h;rcases Nat.eq_zero_or_pos n.size with q|q
    ·exact absurd (Xz (VF q)) h
    ·exact q
   ·intro h e;subst e;simp at h
  ·rw[decide_eq_decide];omega
 rw[e];exact a
end
section
open Go.MapKept
abbrev aK (d:Nat):Option hY:=some ⟨d,0,none⟩
theorem JU {F:Nat->Prop}{d:Nat}{s:Dk}{H:aa}{K:Int->aa->Prop}(h:bw F H d s)(a:K s.most H):Mh.sp (aK d) H K:=by
 obtain⟨x,cin,kp,g,_⟩:=h;refine Mh.of ?_;unfold Mh.vc;exact g.head.ld (c:=ab .i64) (i:=2) rfl a
theorem NI {F:Nat->Prop}{d:Nat}{s:Dk}{H:aa}{K:Int->aa->Prop}(h:bw F H d s)(a:K s.ops H):L1.sp (aK d) H K:=by
 obtain⟨x,cin,kp,g,_⟩:=h;refine L1.of ?_;unfold L1.vc;exact g.head.ld (c:=ab .i64) (i:=4) rfl a
theorem KF {F:Nat->Prop}{d:Nat}{s:Dk}{H:aa}{K:Bool->aa->Prop}(h:bw F H d s)(a:K s.down H):K5.sp (aK d) H K:=by
 obtain⟨x,cin,kp,g,_⟩:=h;refine K5.of ?_;unfold K5.vc;exact g.head.ld (c:=aC) (i:=9) rfl a
theorem yk {q:Int}{H:aa}{K:Option hY->aa->Prop}(u:q<=9223372036854775807)(c:∀F d H',bw F H' d (oe q)->Mod (λ_=>False) H H'->(∀b,F b->H.size<=b)->K (aK d) H'):Fj.sp q H K:=by
 refine Fj.of ?_;unfold Fj.vc;refine tB (d:=.string) λH1 m m1 n=>?_;refine au λo s2 r2 a=>?_;refine c (λb=>b=H1.size\/b=H.size) _ o ⟨⟨H.size,#[],0,[]⟩,0,0,⟨?_,?_,?_,?_⟩,?_⟩ (n.trans a) ?_
 ·have:((if (1048576:Int)<(if (0:Int)>q then (0:Int) else q) then (1048576:Int) else (if (0:Int)>q then (0:Int) else q)))=((oe q).quota:Int):=by
   unfold oe;simp only;split<;>split<;>omega
  rw[this] at r2;exact r2
 ·intro i k h;cases h
 ·exact⟨m1.ar (a.at m1.obj id |>.trans m1.obj.symm),rfl,rfl,by intro i f g h;simp[oe] at h,by rintro k v ⟨e,he,_⟩;simp at he,by intro i j g g' h;simp at h⟩
 ·exact⟨by simp[oe],by simp[oe,Dk.used],by simp[oe],by simp[oe];omega,by simp[oe],by simp[oe],by intro i k h;cases h⟩
 ·intro b;constructor
  ·rintro(e|e)
   ·exact .inl e
   ·exact .inr (.inl e)
  ·rintro(e|e|⟨g,p,_⟩)
   ·exact .inl e
   ·exact .inr e
   ·simp at p
 ·rintro b (e|e)<;>omega
theorem dy.dz {x:DG}{cin kp a c:Int}{H H':aa}{d:Nat}{s s':Dk}(h:dy x cin kp H d s)(g:ao H' d yS (fN x.m s'.used s'.most s'.quota s'.ops s'.next s'.crash.isSome a c s'.down))
  (hm:Mod (λb=>b=d) H H') (i:s'.files=s.files) (j:kR s' a c) (f:s'.WF):dy x a c H' d s':=
 ⟨g,j,by rw[i];exact h.files.ar λb m hl=>hm.same b hl λe=>dy.mW h.head h.files (e▸m),f⟩
theorem Dk.WF.change {s:Dk}(h:s.WF):s.change.1.WF:=by
 unfold Dk.change;split
 ·rename_i a;exact⟨h.nodup,h.used,h.most,h.quota,h.files,by intro hd;have:=h.down hd;rw[a] at this;simp at this,by intro i k e;rw[a] at e;cases e⟩
 ·rename_i i k a;have hi:=h.cin i k a;split
  ·exact⟨h.nodup,h.used,h.most,h.quota,h.files,λ_=>by simp[a],h.cin⟩
  ·refine⟨h.nodup,h.used,h.most,h.quota,h.files,λ_=>rfl,λb c e=>?_⟩;simp only[RH,RJ] at e;obtain⟨rfl,rfl⟩:=e;unfold fT;rw[wrap64 (by omega) (by omega)];omega
theorem Dk.bu (s:Dk):s.change.1.files=s.files:=by
 unfold Dk.change;split
 ·rfl
 ·split<;>rfl
theorem Dk.ni (s:Dk):s.change.1.most=s.most/\s.change.1.quota=s.quota/\s.change.1.next=s.next/\s.change.1.used=s.used:=by
 unfold Dk.change;split
 ·exact⟨rfl,rfl,rfl,rfl⟩
 ·split<;>exact⟨rfl,rfl,rfl,rfl⟩
theorem nQ {x:DG}{cin kp:Int}{d:Nat}{s:Dk}{H:aa}{K:Int->aa->Prop}(h:dy x cin kp H d s)
  (y:∀a H',dy x a kp H' d s.change.1->Mod (λb=>b=d) H H'->H'.size=H.size->K s.change.2 H'):Fg.sp (aK d) H K:=by
 refine Fg.of ?_;unfold Fg.vc;simp only[aw,add_add,Wl];have o:=h.wf.change;have p:=s.bu;have f:∀(a:Int) (H':aa),ao H' d yS (fN x.m s.change.1.used s.change.1.most s.change.1.quota s.change.1.ops s.change.1.next s.change.1.crash.isSome a kp s.change.1.down)->kR s.change.1 a kp->Mod (λb=>b=d) H H'->H'.size=H.size->K s.change.2 H':=
  λa H' z g hm hs=>y a H' (h.dz z hm p g o) hm hs
 refine h.head.ld (c:=aC) (i:=6) (x:=s.crash.isSome) rfl ?_;have m:=h.head;have n:=h.crash;cases g:s.crash with
 |none=>
   refine aE rfl ?_;refine m.ld (c:=ab .i64) (i:=4) (x:=s.ops) rfl ?_;refine m.st (i:=4) (by decide:4<10) (by rfl) λH' r' u s'=>?_;have e:s.change=({s with ops:=fT (s.ops+1)},0):=by unfold Dk.change;rw[g]
   rw[e] at f;exact f cin H' r' (by intro i k q;rw[show ({s with ops:=fT (s.ops+1)}:Dk).crash=s.crash from rfl,g] at q;cases q) u s'
 |some A=>
   obtain⟨i,k⟩:=A;obtain⟨rfl,rfl⟩:=n i k g;refine aR rfl ?_;refine m.ld (c:=ab .i64) (i:=7) (x:=cin) rfl ?_;refine ah (λv=>?_) (λv=>?_)
   ·have j:cin=0:=by simpa using v
    have e:s.change=({s with down:=true},4):=by unfold Dk.change;rw[g];simp[j]
    rw[e] at f;refine m.st (i:=9) (by decide:9<10) (by rfl) λH' r' u s'=>?_;exact f cin H' r' (by intro i k q;exact n i k q) u s'
   ·have j:cin≠0:=by simpa using v
    have e:s.change=({s with crash:=some (fT (cin - 1),kp),ops:=fT (s.ops+1)},0):=by unfold Dk.change;rw[g];simp[j]
    rw[e] at f;refine m.ld (c:=ab .i64) (i:=7) (x:=cin) rfl ?_;refine m.st (i:=7) (by decide:7<10) (by rfl) λH1 w m1 s1=>?_;refine w.ld (c:=ab .i64) (i:=4) (x:=s.ops) rfl ?_;refine w.st (i:=4) (by decide:4<10) (by rfl) λB r2 m2 s2=>?_;refine f (fT (cin - 1)) B ?_ (by intro i k q;simp only[RH,RJ] at q;exact q) (m1.trans m2) (by omega);rw[g] at r2;exact r2
theorem mQ:Hl QH AJ dG .string:=tJ (by kernel_rfl) (by kernel_rfl)
theorem rf {x:DG}{fs:List Fl}{s:Dk}{H:aa}{n:ByteArray}{K:(Option hY×Bool)->Prop}(h:bj H x fs)(a:s.files=fs)(hw:s.WF)
  (o:∀i f g,s.idx n=some i->fs[i]?=some f->f.name=n->x.gs[i]?=some g->cO H g f->K (some ⟨g.p,0,none⟩,true)) (p:s.idx n=none->K (none,false)):
  Fs (aW [aB,aC]) QH (Sd AJ (.map (some x.m)) (.string n) true) H K:=by
 obtain⟨et,inf,hu,hd,hi,q⟩:=mQ;refine uh hu hd hi q h.map (k:=.string n) trivial ?_ ?_
 ·rintro v u;obtain⟨i,f,g,h1,j,w,y⟩:=h.ent' _ _ u;have e:n=f.name:=by cases w;rfl
  have b:s.idx n=some i:=by rw[e];exact Dk.idx_eq hw (by rw[a];exact h1)
  exact⟨(some ⟨g.p,0,none⟩,true),by rw[y];rfl,o i f g b h1 e.symm j (h.ent i f g h1 j).2⟩
 ·intro c;refine⟨(none,false),rfl,p ?_⟩;cases z:s.idx n with
  |none=>rfl
  |some i=>
    obtain⟨f,m,A⟩:=Dk.cw z;rw[a] at m;obtain⟨g,_,he,_⟩:=h.Dl m;rw[A] at he;exact absurd he (c _)
theorem pv {x:DG}{cin kp:Int}{d:Nat}{s:Dk}{H:aa}{n:ByteArray}{K:(Option hY×Int)->aa->Prop}(h:dy x cin kp H d s)
  (a:s.down=true->K (none,4) H) (b:s.down=false->s.idx n=none->K (none,11) H)
  (j:∀i f g,s.down=false->s.idx n=some i->s.files[i]?=some f->f.name=n->x.gs[i]?=some g->cO H g f->K (aK g.p,0) H):FJ.sp (aK d) n H K:=by
 refine FJ.of ?_;unfold FJ.vc;refine mT h.head (down:=s.down) rfl ?_;cases hd:s.down with
 |true=>exact a hd
 |false=>
   refine aE rfl ?_;refine h.head.ld (c:=cd) (i:=0) (x:=some x.m) rfl ?_;refine rf h.files rfl h.wf (λi f g h1 m o p q=>?_) (λh1=>?_)
   ·exact j i f g hd h1 m o p q
   ·exact b hd h1
theorem uU {F:Nat->Prop}{d:Nat}{s:Dk}{H:aa}{n:ByteArray}{K:(Int×Int)->aa->Prop}(h:bw F H d s)(a:K ((s.len n).1,(s.len n).2) H):FD.sp (aK d) n H K:=by
 obtain⟨x,cin,kp,g,_⟩:=h;refine FD.of ?_;unfold FD.vc;refine pv g (λhd=>?_) (λhd j=>?_) (λi f m hd hi o p q b=>?_)
 ·have e:s.len n=(0,4):=by unfold Dk.len Dk.open;rw[hd];rfl
  rw[e] at a;exact a
 ·have e:s.len n=(0,11):=by unfold Dk.len Dk.open;rw[hd,j];rfl
  rw[e] at a;exact a
 ·have e:s.len n=(f.az.length,0):=by unfold Dk.len Dk.open;rw[hd,hi];simp[Dk.dI o]
  rw[e] at a;refine aE rfl ?_;refine b.row.ld (c:=aq) (i:=0) (x:=m.now) rfl ?_;have:=b.now.n (by decide);rw[this];exact a
end
section
open Go.MapKept
theorem iR {es:Array nW}{k v a b:gp}{c:Nat}:fw (es.push {key:=k,val:=v,born:=c}) a b↔fw es a b\/(a=k/\b=v):=by
 constructor
 ·rintro⟨e,he,h1,f⟩;simp only[XH,QQ,Q1] at he;rcases he with he|he
  ·exact .inl ⟨e,he,h1,f⟩
  ·subst he;exact .inr ⟨h1.symm,f.symm⟩
 ·rintro(⟨e,he,h1,f⟩|⟨rfl,rfl⟩)
  ·exact⟨e,by simp[Array.mem_toList_iff.1 he],h1,f⟩
  ·exact⟨⟨a,b,c⟩,by simp,rfl,rfl⟩
theorem str_inj {a b:ByteArray}(h:Value.string a=.string b):a=b:=by cases h;rfl
theorem ub {a b:Nat}(h:dt a=dt b):a=b:=by unfold dt at h;simp at h;exact h
theorem bj.push {H H':aa}{x:DG}{fs:List Fl}(h:bj H x fs){f:Fl}{g:FG}(A:cO H' g f)(hm:ct .string H' x.m (x.es.push {key:=.string f.name,val:=dt g.p,born:=x.clk}) (x.clk+1))
  (hk:∀b,x.fp b->b≠x.m->b<H.size->H'[b]?=H[b]?) (y:∀b,g.fp b->H.size<=b):bj H' ⟨x.m,x.es.push {key:=.string f.name,val:=dt g.p,born:=x.clk},x.clk+1,x.gs++[g]⟩ (fs++[f]):=by
 have old:∀(i:Nat) (f:Fl) (g:FG),fs[i]?=some f->x.gs[i]?=some g->fw x.es (.string f.name) (dt g.p)/\cO H' g f:=λi f g h1 a=>
  ⟨(h.ent i f g h1 a).1,(h.ent i f g h1 a).2.ar λb z u=>hk b (.inr ⟨g,QL a,z⟩) (λe=>h.xZ (QL a) (e▸z)) u⟩
 have hlen:=h.len;have split:∀(i:Nat) (f':Fl) (g':FG),(fs++[f])[i]?=some f'->(x.gs++[g])[i]?=some g'->(fs[i]?=some f'/\x.gs[i]?=some g')\/(i=fs.length/\f'=f/\g'=g):=by
  intro i f' g' h1 a;by_cases hi:i<fs.length
  ·rw[Rf hi] at h1;rw[Rf (by omega)] at a;exact .inl ⟨h1,a⟩
  ·rw[RK (by omega)] at h1 a;have:i=fs.length:=by
    have:=(QJ.1 h1).1;simp at this;omega
   subst this;simp[hlen] at h1 a;exact .inr ⟨rfl,h1.symm,a.symm⟩
 refine⟨hm,by simp[hlen],by simp[h.size],?_,?_,?_⟩
 ·intro i f' g' h1 a;rcases split i f' g' h1 a with ⟨o,p⟩|⟨_,rfl,rfl⟩
  ·exact⟨iR.2 (.inl (old i f' g' o p).1),(old i f' g' o p).2⟩
  ·exact⟨iR.2 (.inr ⟨rfl,rfl⟩),A⟩
 ·intro k v c;rcases iR.1 c with c|⟨rfl,rfl⟩
  ·obtain⟨i,f',g',h1,a,B,C⟩:=h.ent' k v c;have hi:=(QJ.1 h1).1;exact⟨i,f',g',by rw[Rf hi];exact h1,by simp only;rw[Rf (by omega)];exact a,B,C⟩
  ·exact⟨fs.length,f,g,by simp,by simp[<-hlen],rfl,rfl⟩
 ·intro i j g1 g2 h1 a w b m n;have ex:∀(i:Nat) (g1:FG),(x.gs++[g])[i]?=some g1->(x.gs[i]?=some g1/\i<x.gs.length)\/(i=x.gs.length/\g1=g):=by
   intro i g1 h1;by_cases hi:i<x.gs.length
   ·rw[Rf hi] at h1;exact .inl ⟨h1,hi⟩
   ·rw[RK (by omega)] at h1;have:i=x.gs.length:=by
     have:=(QJ.1 h1).1;simp at this;omega
    subst this;simp at h1;exact .inr ⟨rfl,h1.symm⟩
  rcases ex i g1 h1 with ⟨o,D⟩|⟨F,rfl⟩<;>rcases ex j g2 a with ⟨p,G⟩|⟨I,rfl⟩
  ·exact h.apart i j g1 g2 o p w b m n
  ·obtain⟨_,_,_,q⟩:=h.zO o;have:=q.lt b m;have:=y b n;omega
  ·obtain⟨_,_,_,q⟩:=h.zO p;have:=q.lt b n;have:=y b m;omega
  ·omega
theorem bj.erase {H H':aa}{x:DG}{fs:List Fl}{m:Array nW}(h:bj H x fs){i:Nat}{f:Fl}(D:fs[i]?=some f)(p:∀(j:Nat) (f':Fl),fs[j]?=some f'->f'.name=f.name->i=j)
  (hm:ct .string H' x.m m x.clk) (w:∀k v,fw m k v↔fw x.es k v/\k≠.string f.name) (F:∀u,fw x.es (.string f.name) u->m.size+1=x.es.size)
  (hk:∀b,x.fp b->b≠x.m->b<H.size->H'[b]?=H[b]?):bj H' ⟨x.m,m,x.clk,x.gs.eraseIdx i⟩ (fs.eraseIdx i):=by
 have old:∀(i:Nat) (f:Fl) (g:FG),fs[i]?=some f->x.gs[i]?=some g->cO H' g f:=λi f g h1 n=>
  (h.ent i f g h1 n).2.ar λb Q G=>hk b (.inr ⟨g,QL n,Q⟩) (λe=>h.xZ (QL n) (e▸Q)) G
 have y:=(QJ.1 D).1;have hlen:=h.len;have back:∀{α:Type} (l:List α) (j:Nat) (a:α),(l.eraseIdx i)[j]?=some a->∃I,I≠i/\l[I]?=some a/\I=if j<i then j else j+1:=by
  intro α l j a A;rw[Ta] at A;split at A
  ·rename_i q;exact⟨j,by omega,A,by rw[if_pos q]⟩
  ·rename_i q;exact⟨j+1,by omega,A,by rw[if_neg q]⟩
 obtain⟨g0,T,J,_⟩:=h.Dl D;have K:=F _ J;refine⟨hm,?_,?_,?_,?_,?_⟩
 ·simp only;rw[SV (by omega),SV y,hlen]
 ·simp only;rw[SV y];have:=h.size;omega
 ·intro j f' g' h1 n;obtain⟨o,n1,z,L⟩:=back fs j f' h1;obtain⟨M,n2,B,N⟩:=back x.gs j g' n;have:o=M:=by rw[L,N]
  subst this;refine⟨(w _ _).2 ⟨(h.ent o f' g' z B).1,λe=>n1 (p o f' z (str_inj e)).symm⟩,old o f' g' z B⟩
 ·intro k v O;obtain⟨h1,n⟩:=(w k v).1 O;obtain⟨j,f',g',C,r2,R,U⟩:=h.ent' k v h1;have V:j≠i:=by
   intro e;subst e;rw[D] at C;cases C;exact n R
  refine⟨if j<i then j else j - 1,f',g',?_,?_,R,U⟩
  ·by_cases q:j<i
   ·rw[if_pos q,Ta,if_pos q];exact C
   ·rw[if_neg q,Ta,if_neg (by omega),show j - 1+1=j by omega];exact C
  ·simp only;by_cases q:j<i
   ·rw[if_pos q,Ta,if_pos q];exact r2
   ·rw[if_neg q,Ta,if_neg (by omega),show j - 1+1=j by omega];exact r2
 ·intro a c S gc h1 n W;obtain⟨o,n1,z,L⟩:=back x.gs a S h1;obtain⟨M,n2,B,N⟩:=back x.gs c gc n;refine h.apart o M S gc z B ?_;rw[L,N];split<;>split<;>omega
theorem xM {x:DG}{a:Array nW}{i:Nat}:∀b,DG.fp ⟨x.m,a,x.clk,x.gs.eraseIdx i⟩ b->x.fp b:=by
 rintro b (e|⟨g,c,f⟩)
 ·exact .inl e
 ·exact .inr ⟨g,Se c,f⟩
theorem Dk.WF.sub {s s':Dk}(h:s.WF){i:Nat}(hi:i<s.files.length)(a:s'.files=s.files.eraseIdx i)(hm:s'.most=s.most)(b:s'.quota=s.quota)(c:s'.crash=s.crash)(hd:s'.down=s.down):s'.WF:=by
 have hu:s'.used<=s.used:=by
  have:=ke (λf:Fl=>f.az.length) s.files i _ (QK hi);unfold Dk.used;rw[a];omega
 refine⟨?_,by rw[hm];exact QZ hu h.used,by rw[hm,b];exact h.most,by rw[b];exact h.quota,?_,by rw[hd,c];exact h.down,by rw[c];exact h.cin⟩
 ·rw[a];exact List.Nodup.sublist ((Yn s.files i).map _) h.nodup
 ·rw[a,SV hi];have:=h.files;omega
theorem J1 {x:DG}{cin kp:Int}{d:Nat}{s:Dk}{H:aa}{n:ByteArray}{K:Unit->aa->Prop}(h:dy x cin kp H d s)
  (G:s.idx n=none->K () H)
  (I:∀i m H',s.idx n=some i->dy ⟨x.m,m,x.clk,x.gs.eraseIdx i⟩ cin kp H' d (s.drop n)->Mod (λb=>b=d\/b=x.m) H H'->H'.size=H.size->K () H'):LG.sp (aK d) n H K:=by
 refine LG.of ?_;unfold LG.vc;simp only[aw];refine h.head.ld (c:=cd) (i:=0) (x:=some x.m) rfl ?_;refine rf h.files rfl h.wf (λi f g hi v A O B=>?_) (λhi=>aE rfl (G hi));refine aR rfl ?_;refine h.head.ld (c:=ab .i64) (i:=1) (x:=s.used) rfl ?_;simp only[aw];refine B.row.ld (c:=aq) (i:=0) (x:=g.now) rfl ?_;have p:=B.now.n (by decide);refine h.head.st (i:=1) (by decide:1<10) (by rfl) λH1 C m1 s1=>?_;refine C.ld (c:=cd) (i:=0) (x:=some x.m) rfl ?_;have q:=dy.mW h.head h.files;have f1:bj H1 x s.files:=h.files.ar λb D hl=>m1.same b hl λe=>q (e▸D);obtain⟨et,inf,hu,hd,J,Q⟩:=mQ;refine uB hu hd f1.map (k:=.string n) trivial λm L m2 it M o s2=>?_;have w:d≠x.m:=λe=>q (.inl e);have a:s.drop n={s with files:=s.files.eraseIdx i}:=by unfold Dk.drop;rw[hi]
 have y:=(QJ.1 v).1;have u:=ke (λf:Fl=>f.az.length) s.files i f v;refine I i m L hi ⟨?_,by rw[a];exact h.crash,?_,?_⟩ ((m1.mono λb _ e=>.inl e).trans (o.mono λb _ e=>.inr e)) (by omega)
 ·have N:QI.wrap ((s.used:Int) - (g.now.n:Int))=((s.drop n).used:Int):=by
   have h1:(s.drop n).used+f.az.length=s.used:=by rw[a];exact u
   have F:=h.wf.used;have R:=h.wf.most;have S:=h.wf.quota;rw[p,wrap64 (by omega) (by omega)];omega
  have r2:=o.at C w;rw[N] at r2;rw[a] at r2 ⊢;exact r2
 ·rw[a];refine bj.erase (H:=H1) f1 v (λj f' h1 F=>(h.wf.inj v h1 F.symm)) m2 (by rw[A];exact it) (by rw[A];exact M) λb D z hl=>o.same b hl z
 ·rw[a];exact h.wf.sub y rfl rfl rfl rfl rfl
theorem Dk.WF.push {s:Dk}(h:s.WF){n:ByteArray}(g:s.idx n=none)(hl:s.files.length≠4096):({s with files:=s.files++[⟨n,[],[]⟩]}:Dk).WF:=by
 have hu:({s with files:=s.files++[⟨n,[],[]⟩]}:Dk).used=s.used:=by simp[Dk.used,Fl.az]
 refine⟨?_,by rw[hu];exact h.used,h.most,h.quota,?_,h.down,h.cin⟩
 ·simp only[Rm,Q7,TD];rw[Sz];refine⟨h.nodup,by simp,?_⟩;intro a i b c e;simp at c;subst c;obtain⟨f,j,rfl⟩:=QW.1 i;exact Dk.tD g f j (ig e)
 ·have:=h.files;simp;omega
theorem E3 {F:Nat->Prop}{d:Nat}{s:Dk}{H:aa}{n:ByteArray}{K:Int->aa->Prop}(h:bw F H d s)
  (v:∀F' H',bw F' H' d (s.create n).1->Step F F' H H'->K (s.create n).2 H'):Lr.sp (aK d) n H K:=by
 have h0:=h;obtain⟨x,cin,kp,g,C⟩:=h;refine Lr.of ?_;unfold Lr.vc;simp only[aw];refine mT g.head (down:=s.down) rfl ?_;have stay:∀e:Int,s.create n=(s,e)->K e H:=by
  intro e he;have:=v F H (by rw[he];exact h0) (.refl _ _);rw[he] at this;exact this
 cases hd:s.down with
 |true=>exact stay 4 (by unfold Dk.create;rw[hd];rfl)
 |false=>
   refine aE rfl ?_;refine g.head.ld (c:=cd) (i:=0) (x:=some x.m) rfl ?_;have next:∀p:Option hY×Bool,p.2=(s.idx n).isSome->Jf.sp n H (λ(r:Bool) A=>br (!r) (K (2:Int) A) (br p.2 (K (10:Int) A) (ld cd A (Ru ⟨d,0,none⟩ 0) λ(R:Option Nat)=>Ct A R λ(S:Nat)=>br ((S:Int)==(4096:Int)) (K (3:Int) A) (Fg.sp (aK d) A λ(w:Int) a=>br (w==0) (ld cd a (Ru ⟨d,0,none⟩ 0) λ(T:Option Nat)=>aG a #[.slice none 0 0,.slice none 0 0,.slice none 0 0] Ew λp U=>jo QH (SZ AJ (.map T) (.string n) (.pointer (some p))) U λD=>K w D) (K w a))))):=by
    intro p hp;refine Gm ?_;refine ah (λy=>stay 2 ?_) (λy=>?_)
    ·unfold Dk.create;rw[hd];simp at y;simp[y]
    ·simp at y;rw[hp];refine ah (λhi=>stay 10 ?_) (λhi=>?_)
     ·unfold Dk.create;rw[hd];simp[y,hi]
     ·refine g.head.ld (c:=cd) (i:=0) (x:=some x.m) rfl ?_;refine⟨s.files.length,⟨x.es,x.clk,g.files.map.obj,g.files.size⟩,?_⟩;refine ah (λhl=>stay 3 ?_) (λhl=>?_)
      ·unfold Dk.create;rw[hd];simp at hl;simp[y,hi,show s.files.length=4096 by omega]
      ·have G:s.files.length≠4096:=by simp at hl;omega
       have I:s.idx n=none:=by simpa using hi
       have V:s.create n=s.step λt=>{t with files:=t.files++[⟨n,[],[]⟩]}:=by unfold Dk.create;rw[hd];simp[y,hi,G]
       rw[V] at v;refine nQ g λJ a g3 m3 s3=>?_;unfold Dk.step at v;refine ah (λN=>?_) (λN=>?_)
       ·have j:s.change.2=0:=by simpa using N
        rw[if_pos j] at v;rw[j];refine g3.head.ld (c:=cd) (i:=0) (x:=some x.m) rfl ?_;refine au λU s4 r4 O=>?_;obtain⟨et,inf,hu,W,a6,N⟩:=mQ;have z:=s.bu;have X:∀u,¬fw x.es (.string n) u:=by
         intro u Y;obtain⟨i,f,Z,B,_,q3,_⟩:=g3.files.ent' _ _ Y;rw[z] at B;exact Dk.tD I f (QL B) (str_inj q3).symm
        have f4:bj U x s.change.1.files:=g3.files.ar λb Q hl=>O.same b hl id;refine oJ hu W f4.map (k:=.string n) trivial X λD m5 m s5=>?_;have L:=O.at g3.head id;have af:=dy.mW L f4;have al:d≠x.m:=λe=>af (.inl e);have an:a.size≠x.m:=by have:=g3.files.map.lt;omega
        have r5:=m.at r4 an;have hq:cO D ⟨a.size,Sl.mk none 0 0,Sl.mk none 0 0,Sl.mk none 0 0⟩ ⟨n,[],[]⟩:=
         ⟨r5,aF.nil _ _ _,aF.nil _ _ _,aF.nil _ _ _,by rintro b ⟨ad,q,_⟩;cases q⟩
        have f5:=bj.push (H:=a) g3.files (f:=⟨n,[],[]⟩) (g:=⟨a.size,Sl.mk none 0 0,Sl.mk none 0 0,Sl.mk none 0 0⟩) hq m5 (λb Q a1 hl=>(m.same b (by omega) a1).trans (O.same b hl id)) (by
         rintro b (e|⟨ad,q,_⟩|⟨ad,q,_⟩|⟨ad,q,_⟩)
         ·rw[e];exact QN _
         ·cases q
         ·cases q
         ·cases q)
        have M:s.change.1.idx n=none:=by unfold Dk.idx;rw[z];exact I
        have gg:dy ⟨x.m,_,_,_⟩ J kp D d {s.change.1 with files:=s.change.1.files++[⟨n,[],[]⟩]}:=
         ⟨by
          have:=m.at L al;have hu:({s.change.1 with files:=s.change.1.files++[⟨n,[],[]⟩]}:Dk).used=s.change.1.used:=by simp[Dk.used,Fl.az]
          rw[hu];exact this,g3.crash,f5,g3.wf.push M (by rw[z];exact G)⟩
        obtain⟨F',B,q2⟩:=gg.out (x:=x) (F:=F) (H:=H) C (((m3.mono λb _ e=>(C b).2 (.inl e)).trans (Ext.mod O)).trans (m.mono λb _ e=>(C b).2 (.inr (.inl e)))) (by
         rintro b (e|⟨Z,o,Q⟩)
         ·exact .inl (.inl e)
         ·simp at o;rcases o with o|rfl
          ·exact .inl (.inr ⟨Z,o,Q⟩)
          ·rcases Q with e|⟨ad,q,_⟩|⟨ad,q,_⟩|⟨ad,q,_⟩
           ·right;rw[e];simp only;omega
           ·cases q
           ·cases q
           ·cases q)
        exact v F' D B q2
       ·have j:s.change.2≠0:=by simpa using N
        rw[if_neg j] at v;obtain⟨F',B,q2⟩:=g3.out (x:=x) (F:=F) (H:=H) C (m3.mono λb _ e=>(C b).2 (.inl e)) (λb q=>.inl q);exact v F' a B q2
   refine rf g.files rfl g.wf (λi f Z h1 h2 h3 h4 h5=>next _ (by rw[h1];rfl)) (λh1=>next _ (by rw[h1];rfl))
end
section
open Go.MapKept
theorem E8 {F:Nat->Prop}{d:Nat}{s:Dk}{H:aa}{n:ByteArray}{K:Int->aa->Prop}(h:bw F H d s)
  (c:∀F' H',bw F' H' d (s.remove n).1->Step F F' H H'->K (s.remove n).2 H'):Ll.sp (aK d) n H K:=by
 have y:=h;obtain⟨x,cin,kp,g,m⟩:=h;refine Ll.of ?_;unfold Ll.vc;have stay:∀e:Int,s.remove n=(s,e)->K e H:=by
  intro e he;have:=c F H (by rw[he];exact y) (.refl _ _);rw[he] at this;exact this
 refine pv g (λhd=>?_) (λhd z=>?_) (λi f G hd hi I J L A=>?_)
 ·exact stay 4 (by unfold Dk.remove;rw[hd];rfl)
 ·exact stay 11 (by unfold Dk.remove;rw[hd,z];rfl)
 ·refine aE rfl ?_;have B:s.remove n=s.step λt=>t.drop n:=by unfold Dk.remove;rw[hd,hi];rfl
  rw[B] at c;unfold Dk.step at c;refine nQ g λw C g3 m3 M=>?_;refine ah (λo=>?_) (λo=>?_)
  ·have a:s.change.2=0:=by simpa using o
   rw[if_pos a] at c;rw[a];have p:s.change.1.idx n=some i:=by unfold Dk.idx;rw[s.bu];exact hi
   refine J1 g3 (λh1=>by rw[p] at h1;cases h1) λj D H' N g4 m4 O=>?_;obtain⟨F',u,v⟩:=g4.out (x:=x) (F:=F) (H:=H) m ((m3.mono λb _ e=>(m b).2 (.inl e)).trans (m4.mono λb _ e=>(m b).2 (by rcases e with e|e;exact .inl e;exact .inr (.inl e)))) (λb q=>.inl (xM b q));exact c F' H' u v
  ·have a:s.change.2≠0:=by simpa using o
   rw[if_neg a] at c;obtain⟨F',u,v⟩:=g3.out (x:=x) (F:=F) (H:=H) m (m3.mono λb _ e=>(m b).2 (.inl e)) (λb q=>.inl q);exact c F' C u v
theorem Il {F:Nat->Prop}{d:Nat}{s:Dk}{H:aa}{i k:Int}{K:Unit->aa->Prop}(h:bw F H d s)(hi:i<=9223372036854775807)
  (a:∀F' H',bw F' H' d (s.dj i k)->Step F F' H H'->K () H'):Mf.sp (aK d) i k H K:=by
 have m:=h;obtain⟨x,cin,kp,g,c⟩:=h;refine Mf.of ?_;unfold Mf.vc;simp only[aw];refine mT g.head (down:=s.down) rfl ?_;cases hd:s.down with
 |true=>
   refine aE rfl (a F H ?_ (.refl _ _));have:s.dj i k=s:=by unfold Dk.dj;rw[hd];rfl
   rw[this];exact m
 |false=>
   refine aR rfl ?_;have n:s.dj i k={s with crash:=some (max i 0,k)}:=by unfold Dk.dj;rw[hd];rfl
   refine jy (b:=d) (o:=6) (t:=yS) g.head (by kernel_rfl) (by simp[fN]) (by intro v f;simp at f;rcases f with rfl|rfl|rfl<;>rfl) λH' r' j s'=>?_;have e:(if (0:Int)>i then (0:Int) else i)=max i 0:=by split<;>omega
   rw[e] at r';have p:dy x (max i 0) k H' d (s.dj i k):=by
    rw[n];refine g.dz (s':={s with crash:=some (max i 0,k)}) r' j rfl (by intro u w q;simp only[RH,RJ] at q;exact q) ⟨g.wf.nodup,g.wf.used,g.wf.most,g.wf.quota,g.wf.files,λ_=>rfl,?_⟩;intro u w q;simp only[RH,RJ] at q;obtain⟨rfl,rfl⟩:=q;omega
   obtain⟨F',y,z⟩:=p.out (x:=x) (F:=F) (H:=H) c (j.mono λb _ e=>(c b).2 (.inl e)) (λb q=>.inl q);exact a F' H' y z
end
section
open Go.MapKept
theorem xB:tc QH J5 vX vj.size 512:=fe (by kernel_rfl)
theorem Nj:tc QH NL sS yp.size 528:=fe (by kernel_rfl)
theorem jP {s:Sl}{l:List Pg}{H:aa}{K:Sl->aa->Prop}(h:aF vj vX H s l)(hl:l.length<=2097152)
  (c:∀s' H',aF vj vX H' s' l->Mod (λ_=>False) H H'->(∀b,ai s' b->H.size<=b)->K s' H'):Fo.sp s H K:=by
 refine Fo.of ?_;unfold Fo.vc;refine ah (λf=>?_) (λf=>?_)
 ·have:=aF.OR h (by decide) (by simpa using f);subst this;exact c _ H (aF.nil _ _ _) (.refl _ _) (by rintro b ⟨ad,q,_⟩;cases q)
 ·refine Mw (E:=vj) xB λs1 H1 g m1 f1 _=>?_;refine aF.append xB g (x:=s) (r:=l) (bX.ar h.rd λad m hl=>m1.same _ hl id) (h.n (by decide)) (by simp;omega) (by simp;omega) λs' H' i g' _=>?_;refine c s' H' i ⟨QZ m1.size g'.1.size,λb a _=>(g'.1.same b (by have:=m1.size;omega) λj=>?_).trans (m1.same b a id)⟩ (λb a=>?_)
  ·have:=f1 b j;omega
  ·rcases g'.2 b a with q|q
   ·exact f1 b q
   ·exact QZ m1.size q
theorem dy.KR {x:DG}{a c:Int}{H H':aa}{d:Nat}{s t:Dk}(h:bj H x s.files){i:Nat}{f:Fl}{g g':FG}{u:Fl->Fl}(m:s.files[i]?=some f)(n:x.gs[i]?=some g)(o:g'.p=g.p)(p:(u f).name=f.name)(q:cO H' g' (u f))
  (hm:Mod g.fp H H') (v:∀b,g'.fp b->g.fp b\/H.size<=b) (w:t.files=s.files.modify i u) (y:ao H' d yS (fN x.m t.used t.most t.quota t.ops t.next t.crash.isSome a c t.down)) (z:kR t a c) (j:t.WF):
  dy {x with gs:=x.gs.set i g'} a c H' d t/\(∀b,DG.fp {x with gs:=x.gs.set i g'} b->x.fp b\/H.size<=b):=by
 obtain⟨h1,A⟩:=h.set m n o p q hm v;rw[<-bm m,<-w] at h1;exact⟨⟨y,z,h1,j⟩,A⟩
theorem Jc {F:Nat->Prop}{d:Nat}{s:Dk}{H:aa}{n:ByteArray}{K:Int->aa->Prop}(h:bw F H d s)
  (w:∀F' H',bw F' H' d (s.sync n).1->Step F F' H H'->K (s.sync n).2 H'):La.sp (aK d) n H K:=by
 have W:=h;obtain⟨x,cin,kp,g,z⟩:=h;refine La.of ?_;unfold La.vc;have stay:∀e:Int,s.sync n=(s,e)->K e H:=by
  intro e he;have:=w F H (by rw[he];exact W) (.refl _ _);rw[he] at this;exact this
 refine pv g (λhd=>?_) (λhd X=>?_) (λi f m hd hi Y U D Z=>?_)
 ·exact stay 4 (by unfold Dk.sync;rw[hd];rfl)
 ·exact stay 11 (by unfold Dk.sync;rw[hd,X];rfl)
 ·refine aE rfl ?_;have hr:s.sync n=s.step λt=>t.IL i λf=>{f with synced:=f.az,log:=[]}:=by unfold Dk.sync;rw[hd,hi];rfl
  rw[hr] at w;unfold Dk.step at w;refine nQ g λV G g3 m3 s3=>?_;have I:=s.bu;have o:s.change.1.files[i]?=some f:=by rw[I];exact Y
  refine ah (λJ=>?_) (λJ=>?_)
  ·have p:s.change.2=0:=by simpa using J
   rw[if_pos p] at w;rw[p];simp only[aw];have a:=(g3.files.ent i f m o D).2;refine a.row.ld (c:=aq) (i:=0) (x:=m.now) rfl ?_;have af:=Dk.fm o;have y:=g3.wf;have L:=y.used;have M:=y.most;have al:=y.quota;refine jP a.now (by omega) λs1 H4 o4 m4 f4=>?_;have N:=a.row.ext m4;refine N.st (i:=1) (by simp) (by rfl) λH5 r5 m5 s5=>?_;refine r5.st (i:=2) (by simp) (by rfl) λO r6 m6 s6=>?_;have an:m.p<G.size:=aI a.row;have v:∀b,ai m.now b->b≠m.p:=λb j e=>by
    obtain⟨c,q⟩:=a.now.obj b j;rw[e] at q;exact absurd (aM a.row q) (by decide)
   have q:cO O {m with syn:=s1,log:=Sl.mk none 0 0} ⟨f.name,f.az,[]⟩:=by
    refine⟨r6,?_,?_,aF.nil _ _ _,?_⟩
    ·exact aO.ar (a.now) λb j hl=>(m6.same b (by have:=m4.size;omega) (v b j)).trans ((m5.same b (by have:=m4.size;omega) (v b j)).trans (m4.same b hl id))
    ·refine aO.ar o4 λb j hl=>?_;have:=f4 b j;exact(m6.same b (by omega) (by omega)).trans (m5.same b hl (by omega))
    ·intro b j Q;have:=f4 b Q;have:=a.now.lt b j;omega
   have hm:Mod m.fp G O:=by
    refine⟨by have:=m4.size;omega,λb j U=>?_⟩;have A:b≠m.p:=λe=>U (.inl e);have:=m4.size;exact(m6.same b (by omega) A).trans ((m5.same b (by omega) A).trans (m4.same b j id))
   have R:=dy.mW g3.head g3.files;have B:=QL D;have hu:=Dk.jA (s:=s.change.1) (g:=λf=>{f with synced:=f.az,log:=[]}) o;have C:(s.change.1.IL i λf=>{f with synced:=f.az,log:=[]}).used=s.change.1.used:=by
    have e:({f with synced:=f.az,log:=[]}:Fl).az.length=f.az.length:=rfl;omega
   obtain⟨g6,ho⟩:=dy.KR (d:=d) (t:=s.change.1.IL i λf=>{f with synced:=f.az,log:=[]}) (u:=λf=>{f with synced:=f.az,log:=[]}) (g':={m with syn:=s1,log:=Sl.mk none 0 0}) g3.files o D rfl rfl q hm (by
     rintro b (e|j|j|⟨ad,j,_⟩)
     ·exact .inl (.inl e)
     ·exact .inl (.inr (.inl j))
     ·exact .inr (f4 b j)
     ·cases j) rfl (by rw[C];exact g3.head.mod hm λj=>R (.inr ⟨m,B,j⟩)) g3.crash (g3.wf.modify (g:=λf=>{f with synced:=f.az,log:=[]}) o rfl rfl (by rw[C];exact L) M rfl rfl rfl)
   obtain⟨F',S,T⟩:=g6.out (x:=x) (F:=F) (H:=H) z ((m3.mono λb _ e=>(z b).2 (.inl e)).trans (hm.mono λb _ e=>(z b).2 (.inr (.inr ⟨m,B,e⟩)))) (λb j=>(ho b j).imp id (λq=>by omega));exact w F' O S T
  ·have p:s.change.2≠0:=by simpa using J
   rw[if_neg p] at w;obtain⟨F',S,T⟩:=g3.out (x:=x) (F:=F) (H:=H) z (m3.mono λb _ e=>(z b).2 (.inl e)) (λb q=>.inl q);exact w F' G S T
theorem Ir:(zc QH vX).toList=vj.enc IB:=by kernel_rfl
theorem Gq {l:Sl}{ps:List Pg}{page:Nat}{no:Int}{b:Pg}{H:aa}{K:Sl->aa->Prop}(h:aF vj vX H l ps)(hlen:ps.length<=2097152)(m:page<2097152)
  (z:∀n H',aF vj vX H' n (dZ ps ⟨no,page,b⟩)->Grown l n H H'->K n H'):IG.sp l page (gP b.1).toArray H K:=by
 refine IG.of ?_;unfold IG.vc;refine au λH1 s1 A m1=>?_;have f:=h.lt;refine⟨Nat,λk a g=>aF vj vX g a (ps++Q6 k IB)/\k<=page+1 - ps.length/\Mod (ai l) H1 g/\(∀b,ai a b->ai l b\/H1.size<=b),λk=>page+1 - ps.length - k,⟨0,by simpa using aO.ext h m1,Q5 _,.refl _ _,λb o=>.inl o⟩,?_⟩;rintro k a g ⟨j,hk,m2,f2⟩;have F:a.n=ps.length+k:=by rw[aF.n j (by decide)];simp
 refine ah (λp=>?_) (λp=>?_)
 ·have q:a.n<=page:=by simpa using p
  refine aF.Df (E:=vj) xB (x:=IB) (cs:=zc QH vX) j Ir (by decide) (by simp;omega) (by simp;omega) λs' H' v g' _=>?_;refine⟨k+1,⟨?_,by omega,?_,?_⟩,by show _ - _<_ - _;omega⟩
  ·rw[RD,<-List.replicate_succ'] at v;exact v
  ·grind [Mod]
  ·grind [Mod]
 ·have q:page<a.n:=by simpa using p
  have B:ao g H.size vX (gP b.1).toArray:=A.mod m2 (λo=>by have:=f _ o;omega);refine B.cN (c:=ku) (x:=(gP b.1).toArray) rfl (by simp[gP,b.2]) ?_;obtain⟨ad,w⟩:=bX.addr j.rd (by decide) (by simp;omega);rw[w];refine⟨⟨by omega,by omega⟩,?_⟩;refine aF.Oe (E:=vj) j w (i:=page) (y:=b) (by simp;omega) (by simp[vj]) (by kernel_rfl) (by simp[vj]) λC D m3 G=>?_;have u:k=page+1 - ps.length:=by omega
  refine z a C (by unfold dZ;rw[<-u];exact D) ⟨?_,?_⟩
  ·grind [Mod]
  ·grind [Mod]
end
section
open Go.MapKept
def eV (b:List UInt8):List Int:=b.map λx=>(x.toNat:Int)
abbrev bW (H:aa)(s:Sl)(b:List UInt8):Prop:=Ints .u8 H s (eV b)
theorem gZ (b:List UInt8):(eV b).map (QT .u8)=gP b:=by simp[eV,gP]
theorem bW.n {H:aa}{s:Sl}{b:List UInt8}(h:bW H s b):s.n=b.length:=by have:=h.len;simpa[eV] using this
theorem bW.cells {H:aa}{s:Sl}{b:List UInt8}(h:bW H s b):Reads H s.a (gP b):=by rw[<-gZ];exact h.reads
theorem bW.row {H:aa}{s:Sl}{b:List UInt8}{ad:hY}(h:bW H s b)(c:s.a=some ad):lX H ad b.length (.agg (gP b).toArray):=by
 refine⟨_,rfl,by simp[gP],λi hi=>?_⟩;have f:(gP b)[i]?=some ((gP b)[i]'(by simpa[gP] using hi)):=QK _;obtain⟨g,a,j⟩:=h.cells _ _ f;rw[c] at a;cases a;rw[j];simp
theorem bW.ar {H H':aa}{s:Sl}{b:List UInt8}(h:bW H s b)(k:∀ad,s.a=some ad->ad.block<H.size->H'[ad.block]?=H[ad.block]?):bW H' s b:=by
 refine⟨h.len,λi v g=>?_⟩;obtain⟨ad,c,f⟩:=h.reads i v g;have a:=j6 f;rw[dM] at a;exact⟨ad,c,(ib (by rw[dM];exact k ad c a)).trans f⟩
theorem bW.addr {H:aa}{s:Sl}{b:List UInt8}(h:bW H s b)(a:0<b.length):∃ad,s.a=some ad/\ad.block<H.size:=by
 obtain⟨ad,c,f⟩:=h.reads.at (i:=0) (by simp[eV];exact a);have:=j6 f;rw[dM] at this;exact⟨ad,c,this⟩
theorem nY {H H':aa}{ad:hY}{n:Nat}{v:gp}(h:lX H ad n v)(k:H'[ad.block]?=H[ad.block]?):lX H' ad n v:=by
 obtain⟨cs,e,a,b⟩:=h;exact⟨cs,e,a,λi hi=>(ib (by rw[dM];exact k)).trans (b i hi)⟩
theorem BK (parts:List (Nat×gp)):QH.built sS parts=TF (λi=>(#[(0,1),(1,1),(2,512)]:Array (Nat×Nat))[i]?) (zc QH sS) parts:=by kernel_rfl
theorem kJ:(zc QH sS).size=514:=by kernel_rfl
theorem ES {no page:Int}{cs z:Array gp}(c:z.size=514)(a:cs.size=512):
  TF (λi=>(#[(0,1),(1,1),(2,512)]:Array (Nat×Nat))[i]?) z [(0,(.int .i64 no)),(1,(.int .i64 page)),(2,(.agg cs))]=some (#[.int .i64 no,.int .i64 page]++cs):=by
 have c1:(QT .i64 no).cells=#[.int .i64 no]:=rfl;have c2:(QT .i64 page).cells=#[.int .i64 page]:=rfl;have b:(Z7 cs).cells=cs:=rfl;rw[nT (off:=0) (n:=1) (v:=.int .i64 no) rfl rfl (by omega),nT (off:=1) (n:=1) (v:=.int .i64 page) rfl rfl (by simp[c1];omega),nT (off:=2) (n:=512) (v:=.agg cs) rfl a (by simp[c1,c2];omega)];simp only[TF,c1,c2,b];refine congrArg some (Array.ext' ?_);simp;omega
theorem Cj {no page:Int}{cs:Array gp}{K:Array gp->Prop}(a:cs.size=512)(b:K (#[.int .i64 no,.int .i64 page]++cs)):
  tF ku QH (Instr.build sS #[(0,(.int .i64 no)),(1,(.int .i64 page)),(2,(.agg cs))]) K:=by
 refine⟨_,λw=>?_,b⟩;refine run_build w _ _ _ ?_;rw[BK];exact ES kJ a
set_option maxHeartbeats 1000000 in
theorem HG {F:Nat->Prop}{d:Nat}{s:Dk}{H:aa}{n:ByteArray}{page:Int}{p3:Sl}{b:List UInt8}{K:Int->aa->Prop}(h:bw F H d s)(j:bW H p3 b)(b2:∀ad,p3.a=some ad->¬F ad.block)(b3:s.aH<68719476736)
  (O:∀F' H',bw F' H' d (s.write n page b).1->Step F F' H H'->K (s.write n page b).2 H'):Lb.sp (aK d) n page p3 H K:=by
 have h0:=h;obtain⟨x,cin,kp,g,Z⟩:=h;refine Lb.of ?_;unfold Lb.vc;simp only[aw];have stay:∀e:Int,s.write n page b=(s,e)->K e H:=by
  intro e he;have:=O F H (by rw[he];exact h0) (.refl _ _);rw[he] at this;exact this
 refine mT g.head (down:=s.down) rfl ?_;cases hd:s.down with
 |true=>exact stay 4 (by unfold Dk.write;rw[hd];rfl)
 |false=>
   refine aE rfl ?_;have dc:=j.n;refine ah (λaf=>stay 2 ?_) (λaf=>?_)
   ·have:b.length≠512:=by simp at af;omega
    unfold Dk.write;rw[hd];simp[this]
   have a:b.length=512:=by simp at af;omega
   refine pv g (λa8=>by rw[hd] at a8;cases a8) (λ_ hN=>?_) (λi f m _ hi hf dk hg al=>?_)
   ·refine⟨λ_ _=>False,stay 11 ?_,λ_ _ h=>h.elim⟩;unfold Dk.write;rw[hd];simp[a,hN]
   have p:s.file i=f:=Dk.dI hf;have cB:=al.now.n (by decide);have w1:=g.wf.used;have w2:=g.wf.most;have w3:=g.wf.quota;have dm:=Dk.fm hf;have bb:page<0\/page>f.az.length->s.write n page b=(s,12):=by
    intro z;unfold Dk.write;rw[hd];simp only[SL,if_false,a,dif_pos,hi,p];rw[if_pos z]
   have e5:¬(page<0\/page>f.az.length)->page=f.az.length->s.used=s.quota->s.write n page b=(s,5):=by
    intro z h1 h2;unfold Dk.write;rw[hd];simp only[SL,if_false,a,dif_pos,hi,p];rw[if_neg z,if_pos ⟨h1,by omega⟩]
   refine⟨λ_ H'=>H'=H/\¬(page<0\/page>f.az.length)/\¬(page=f.az.length/\s.used=s.quota),?_,?_⟩
   ·refine aE rfl ?_;refine ah (λz=>?_) (λz=>?_)
    ·exact aR z (stay 12 (bb (.inl (by simpa using z))))
    ·have dn:¬page<0:=by simpa using z
     simp only[aw];refine al.row.ld (c:=aq) (i:=0) (x:=m.now) rfl ?_;refine ah (λz=>?_) (λz=>?_)
     ·exact stay 12 (bb (.inr (by simp at z;omega)))
     ·have A:¬(page<0\/page>f.az.length):=by simp at z;omega
      refine al.row.ld (c:=aq) (i:=0) (x:=m.now) rfl ?_;refine ah (λhe=>?_) (λhe=>?_)
      ·have B:page=f.az.length:=by simp at he;omega
       refine g.head.ld (c:=ab .i64) (i:=1) (x:=s.used) rfl ?_;refine g.head.ld (c:=ab .i64) (i:=3) (x:=s.quota) rfl ?_;refine ah (λhq=>?_) (λhq=>?_)
       ·exact stay 5 (e5 A B (by simp at hq;omega))
       ·exact⟨by trivial,A,λQ=>by simp at hq;omega⟩
      ·exact⟨by trivial,A,λQ=>by simp at he;omega⟩
   ·rintro _ H0 ⟨rfl,A,dA⟩;obtain⟨pg,rfl⟩:∃k:Nat,page=k:=⟨page.toNat,by omega⟩;have dB:pg<=f.az.length:=by omega
    have hr:s.write n pg b=s.step λt=>(t.gI i ⟨t.next,pg,⟨b,a⟩⟩).jw (max t.most (t.gI i ⟨t.next,pg,⟨b,a⟩⟩).used):=by
     unfold Dk.write;rw[hd];simp only[SL,if_false,a,dif_pos,hi,p];rw[if_neg A,if_neg (by omega)];rfl
    rw[hr] at O;unfold Dk.step at O;refine nQ g λU H4 g4 m4 s4=>?_;refine ah (λhz=>?_) (λhz=>?_)
    ·have an:s.change.2≠0:=by simpa using hz
     rw[if_neg an] at O;obtain⟨F',q1,q2⟩:=g4.out (x:=x) (F:=F) (H:=H0) Z (m4.mono λb _ e=>(Z b).2 (.inl e)) (λb q=>.inl q);exact O F' H4 q1 q2
    have an:s.change.2=0:=by simpa using hz
    rw[if_pos an] at O;obtain⟨k1,k2,k3,k4⟩:=s.ni;have b4:=s.bu;generalize ht:s.change.1=t at*;have y:t.files[i]?=some f:=by rw[b4];exact hf
    have bd:=(g4.files.ent i f m y hg).2;have R:=QL hg;have bh:=dy.mW g4.head g4.files
    -- how many pages there are then
    obtain⟨u,hu⟩:∃u:Nat,u=if pg=f.az.length then t.used+1 else t.used:=⟨_,rfl⟩
    refine⟨λ_ V=>ao V d yS (fN x.m u (max t.most u:Nat) t.quota t.ops t.next t.crash.isSome U kp t.down)/\Mod (λb=>b=d) H4 V/\V.size=H4.size,?_,?_⟩
    ·refine bd.row.ld (c:=aq) (i:=0) (x:=m.now) rfl ?_;refine ah (λhe=>?_) (λhe=>?_)
     ·have B:pg=f.az.length:=by simp at he;omega
      rw[if_pos B] at hu;refine g4.head.ld (c:=ab .i64) (i:=1) (x:=t.used) rfl ?_;refine g4.head.st (i:=1) (by simp[fN]) (by rfl) λH6 r6 m6 s6=>?_;have eu:QI.wrap ((t.used:Int)+1)=(u:Int):=by rw[wrap64 (by omega) (by omega)];omega
      rw[eu] at r6;refine r6.ld (c:=ab .i64) (i:=2) (x:=t.most) rfl ?_;refine r6.ld (c:=ab .i64) (i:=1) (x:=u) rfl ?_;refine r6.st (i:=2) (by simp[fN]) (by rfl) λH7 r7 m7 s7=>?_;have em:(if (u:Int)>(t.most:Int) then (u:Int) else (t.most:Int))=((max t.most u:Nat):Int):=by split<;>omega
      rw[em] at r7;exact⟨r7,m6.trans m7,by omega⟩
     ·have B:pg≠f.az.length:=by simp at he;omega
      rw[if_neg B] at hu;have em:(max t.most u:Nat)=t.most:=by have:=g4.wf.used;omega
      rw[em,hu];exact⟨g4.head,.refl _ _,rfl⟩
    ·rintro _ V ⟨r5,m5,s5⟩;obtain⟨ad,ha,b5⟩:=j.addr (by omega);have bl:¬F ad.block:=b2 ad ha;have C:∀b,(b=d\/x.fp b)->b≠ad.block:=λb j e=>bl ((Z _).2 (e▸j));have W:ad.block≠d:=λe=>C d (.inl rfl) e.symm;have X:=j.row ha;rw[a] at X;have bn:lX H4 ad 512 (.agg (gP b).toArray):=nY X (m4.same _ b5 W);have dD:H4.size=H0.size:=s4;have D:lX V ad 512 (.agg (gP b).toArray):=nY bn (m5.same _ (by omega) W);have b6:¬m.fp d:=λj=>bh (.inr ⟨m,R,j⟩);have w:bj V x t.files:=g4.files.ar λb j hl=>m5.same b hl λe=>bh (e▸j);have o:=(w.ent i f m y hg).2;refine⟨λH'=>ao H' m.p Ew #[m.now.v,m.syn.v,m.log.v]/\lX H' ad 512 (.agg (gP b).toArray),⟨o.row,D⟩,?_⟩;refine⟨m.log,λH' hG=>by rw[bg];exact hG.1.cell rfl,?_⟩;refine r5.ld (c:=ab .i64) (i:=5) (x:=t.next) rfl ?_;refine⟨by omega,?_⟩;rw[ha];refine⟨(gP b).toArray,λH' hG=>hG.2,?_⟩;refine Cj (by simp[gP,a]) ?_;have dT:=Dk.kM hf;refine aF.Ib (E:=yp) Nj (x:=⟨t.next,pg,⟨b,a⟩⟩) o.log (by simp[yp]) (by decide) (by omega) (by omega) _ (λH8 s8 m8=>?_) λs9 H9 o9 g9 _=>?_
     ·exact⟨o.row.ext m8,nY D (m8.same _ (by omega) id)⟩
     ·have b7:∀b,ai m.log b->b≠m.p:=λb j e=>by
       obtain⟨c,q⟩:=o.log.obj b j;rw[e] at q;exact absurd (aM o.row q) (by decide)
      have bs:∀b,ai m.now b->b≠m.p:=λb j e=>by
       obtain⟨c,q⟩:=o.now.obj b j;rw[e] at q;exact absurd (aM o.row q) (by decide)
      have bx:∀b,ai m.syn b->b≠m.p:=λb j e=>by
       obtain⟨c,q⟩:=o.syn.obj b j;rw[e] at q;exact absurd (aM o.row q) (by decide)
      have b9:∀b,ai m.log b->¬ai m.now b:=o.log.apart o.now (by decide);have cb:∀b,ai m.log b->¬ai m.syn b:=o.log.apart o.syn (by decide);have c0:=o.now.lt;have c3:=o.syn.lt;have c4:=o.log.lt;have lp:m.p<V.size:=aI o.row;have F9:ao H9 m.p Ew #[m.now.v,m.syn.v,m.log.v]:=o.row.mod g9.1 (λj=>b7 _ j rfl);simp only[aw];refine F9.st (i:=2) (by simp) (by rfl) λG a1 m10 ea=>?_;have bA:ad.block≠m.p:=λe=>C _ (.inr (.inr ⟨m,R,.inl rfl⟩)) e.symm;have bB:¬ai m.log ad.block:=λj=>C _ (.inr (.inr ⟨m,R,.inr (.inr (.inr j))⟩)) rfl;have a6:lX G ad 512 (.agg (gP b).toArray):=nY D ((m10.same _ (by have:=g9.1.size;omega) bA).trans (g9.1.same _ (by omega) bB));refine a1.ld (c:=aq) (i:=0) (x:=m.now) rfl ?_;refine⟨by omega,?_⟩;refine⟨(gP b).toArray,a6,?_⟩;have I:aF vj vX G m.now f.az:=o.now.ar λb j hl=>(m10.same b (by have:=g9.1.size;omega) (bs b j)).trans (g9.1.same b hl λQ=>b9 b Q j);have J:aF vj vX G m.syn f.synced:=o.syn.ar λb j hl=>(m10.same b (by have:=g9.1.size;omega) (bx b j)).trans (g9.1.same b hl λQ=>cb b Q j);have bC:∀b,ai s9 b->b≠m.p:=λb j e=>by
       obtain⟨c,q⟩:=o9.obj b j;rw[e] at q;exact absurd (aM F9 q) (by decide)
      have log10:aF yp sS G s9 (f.log++[⟨t.next,pg,⟨b,a⟩⟩]):=o9.ar λb j hl=>m10.same b hl (bC b j);refine Gq (no:=t.next) (b:=⟨b,a⟩) I (by omega) (by omega) λL ck bD g11=>?_;have c5:m.p<G.size:=aI a1;have bM:ao ck m.p Ew #[m.now.v,m.syn.v,s9.v]:=a1.mod g11.1 (λj=>bs _ j rfl);refine bM.st (i:=0) (by simp) (by rfl) λa7 cm m12 eb=>?_;have bN:∀b,ai L b->b≠m.p:=λb j e=>by
       obtain⟨c,q⟩:=bD.obj b j;rw[e] at q;exact absurd (aM bM q) (by decide)
      have cx:cO a7 ⟨m.p,L,m.syn,s9⟩ {f with log:=f.log++[⟨t.next,pg,⟨b,a⟩⟩]}:=by
       have S:=J.lt;have b1:=log10.lt;refine⟨cm,?_,?_,?_,?_⟩
       ·have:=bD.ar (H':=a7) λb j hl=>m12.same b hl (bN b j);have e:({f with log:=f.log++[⟨t.next,pg,⟨b,a⟩⟩]}:Fl).az=dZ f.az ⟨t.next,pg,⟨b,a⟩⟩:=by simp[Fl.az]
        rw[e];exact this
       ·exact J.ar λb j hl=>(m12.same b (by have:=g11.1.size;omega) (bx b j)).trans (g11.1.same b hl λQ=>o.apart b Q j)
       ·refine log10.ar λb j hl=>(m12.same b (by have:=g11.1.size;omega) (bC b j)).trans (g11.1.same b hl λQ=>?_);exact(log10.apart I (by decide)) b j Q
       ·intro b j bO;rcases g11.2 b j with q|q
        ·exact o.apart b q bO
        ·have:=S b bO;omega
      have M:Mod m.fp V a7:=by
       have z1:=g9.1.size;have z2:=g11.1.size;refine⟨by omega,λb j hn=>?_⟩;have n1:b≠m.p:=λe=>hn (.inl e);have n2:¬ai m.now b:=λe=>hn (.inr (.inl e));have n3:¬ai m.log b:=λe=>hn (.inr (.inr (.inr e)));exact(m12.same b (by omega) n1).trans ((g11.1.same b (by omega) n2).trans ((m10.same b (by omega) n1).trans (g9.1.same b j n3)))
      have N:=r5.mod M b6;refine N.ld (c:=ab .i64) (i:=5) (x:=t.next) rfl ?_;refine N.st (i:=5) (by simp[fN]) (by rfl) λT cy m13 ec=>?_;obtain⟨fa,fb⟩:=w.set y hg (f':={f with log:=f.log++[⟨t.next,pg,⟨b,a⟩⟩]}) (g':=⟨m.p,L,m.syn,s9⟩) rfl rfl cx M (by
       have z1:=g9.1.size;rintro b (e|j|j|j)
       ·exact .inl (.inl e)
       ·rcases g11.2 b j with q|q
        ·exact .inl (.inr (.inl q))
        ·right;omega
       ·exact .inl (.inr (.inr (.inl j)))
       ·exact(g9.2 b j).imp (λq=>.inr (.inr (.inr q))) id)
      have v:(t.gI i ⟨t.next,pg,⟨b,a⟩⟩).used=u:=by
       have h1:=Dk.jA (s:=t) (g:=λf=>{f with log:=f.log++[⟨t.next,pg,⟨b,a⟩⟩]}) y;have h2:({f with log:=f.log++[⟨t.next,pg,⟨b,a⟩⟩]}:Fl).az.length=max f.az.length (pg+1):=by
        have e:({f with log:=f.log++[⟨t.next,pg,⟨b,a⟩⟩]}:Fl).az=dZ f.az ⟨t.next,pg,⟨b,a⟩⟩:=by simp[Fl.az]
        rw[e,di]
       have h3:(t.gI i ⟨t.next,pg,⟨b,a⟩⟩).used=(t.IL i (λf=>{f with log:=f.log++[⟨t.next,pg,⟨b,a⟩⟩]})).used:=rfl;rw[h3];split at hu<;>omega
      dsimp only at O;rw[v] at O;have b0:¬DG.fp {x with gs:=x.gs.set i ⟨m.p,L,m.syn,s9⟩} d:=by
       intro j;exact dy.mW N fa j
      have Y:=fa.ar (H':=T) λb j hl=>m13.same b hl λe=>b0 (e▸j);have gg:dy {x with gs:=x.gs.set i ⟨m.p,L,m.syn,s9⟩} U kp T d ((t.gI i ⟨t.next,pg,⟨b,a⟩⟩).jw (max t.most u)):=by
       refine⟨?_,g4.crash,?_,?_⟩
       ·have e:((t.gI i ⟨t.next,pg,⟨b,a⟩⟩).jw (max t.most u)).used=u:=v;rw[e];exact cy
       ·rw[<-bm y (g:=λf=>{f with log:=f.log++[⟨t.next,pg,⟨b,a⟩⟩]})] at Y;exact Y
       ·refine g4.wf.modify (g:=λf=>{f with log:=f.log++[⟨t.next,pg,⟨b,a⟩⟩]}) y rfl rfl ?_ ?_ rfl rfl rfl
        ·have e:((t.gI i ⟨t.next,pg,⟨b,a⟩⟩).jw (max t.most u)).used=u:=v;rw[e];exact Nat.le_max_right _ _
        ·show max t.most u<=t.quota;split at hu<;>omega
      have cz:Mod F H0 T:=((m4.trans m5).mono λb _ e=>(Z b).2 (.inl e)).trans ((M.mono λb _ e=>(Z b).2 (.inr (.inr ⟨m,R,e⟩))).trans (m13.mono λb _ e=>(Z b).2 (.inl e)));obtain⟨F',q1,q2⟩:=gg.out (x:=x) (F:=F) (H:=H0) Z cz (λb j=>(fb b j).imp id (λq=>by omega));exact O F' T q1 q2
end
section
open Go.MapKept
def EB:eZ UInt8:=⟨1,λx=>[.int .u8 (x.toNat:Int)],λ_=>rfl,λx u hu=>by simp at hu;subst hu;rfl⟩
theorem jc (b:List UInt8):EB.all b=gP b:=by
 induction b with
 |nil=>rfl
 |cons x b a=>
   have c:EB.all (x::b)=.int .u8 (x.toNat:Int)::EB.all b:=rfl;have f:gP (x::b)=.int .u8 (x.toNat:Int)::gP b:=rfl;rw[c,f,a]
theorem jM:tc QH eK fU EB.size 1:=fe (by kernel_rfl)
theorem cg {H:aa}{s:Sl}{b:List UInt8}(h:aF EB fU H s b):bW H s b:=by
 have c:=h.n (by decide);have a:=h.rd;unfold bX at a;rw[jc,<-gZ] at a;exact⟨by rw[c];simp[eV],a⟩
theorem gF {s:Sl}{l:List UInt8}{H:aa}{K:Sl->aa->Prop}(h:bW H s l)(hl:l.length<=1099511627776)
  (i:∀s' H',aF EB fU H' s' l->Mod (λ_=>False) H H'->(∀b,ai s' b->H.size<=b)->K s' H'):Fy.sp s H K:=by
 refine Fy.of ?_;unfold Fy.vc;refine ah (λa=>?_) (λa=>?_)
 ·have:l=[]:=by
   cases l with
   |nil=>rfl
   |cons x r=>
     obtain⟨ad,j,_⟩:=h.addr (by simp);rw[j] at a;cases a
  subst this;exact i _ H (aF.nil _ _ _) (.refl _ _) (by rintro b ⟨ad,q,_⟩;cases q)
 ·refine au λH1 s1 m m1=>?_;have n:aF EB fU H1 ⟨some ⟨H.size,0,none⟩,0,0⟩ []:=⟨rfl,.inr ⟨H.size,0,#[],rfl,Q5 _,m,QN _,by unfold maxLen;omega,rfl,rfl⟩⟩;have o:bX EB H1 s.a l:=by unfold bX;rw[jc];exact(h.ar λad j hl=>m1.same _ hl id).cells
  refine aF.append jM (s:=⟨some ⟨H.size,0,none⟩,0,0⟩) (x:=s) n o h.n (by simp;omega) (by simp;omega) λs' H' p g' _=>?_;refine i s' H' p ⟨QZ m1.size g'.1.size,λb c _=>(g'.1.same b (by omega) ?_).trans (m1.same b c id)⟩ (λb c=>?_)
  ·rintro⟨ad,f,g⟩;cases f;have:H.size=b:=g;omega
  ·rcases g'.2 b c with ⟨ad,f,g⟩|q
   ·cases f;have:H.size=b:=g;omega
   ·omega
theorem CH {F:Nat->Prop}{d:Nat}{s:Dk}{H:aa}{n:ByteArray}{page:Int}{K:(Sl×Int)->aa->Prop}(h:bw F H d s)
  (w:∀r H',aF EB fU H' r (s.read n page).1->Mod (λ_=>False) H H'->(∀b,ai r b->H.size<=b)->K (r,(s.read n page).2) H'):Ke.sp (aK d) n page H K:=by
 obtain⟨x,cin,kp,g,_⟩:=h;refine Ke.of ?_;unfold Ke.vc;have err:∀e:Int,s.read n page=([],e)->K (Sl.mk none 0 0,e) H:=by
  intro e he;have:=w (Sl.mk none 0 0) H (by rw[he];exact aF.nil _ _ _) (.refl _ _) (by rintro b ⟨ad,q,_⟩;cases q);rw[he] at this;exact this
 refine pv g (λhd=>?_) (λhd J=>?_) (λi f C hd hi L T U o=>?_)
 ·refine⟨λ_ _=>False,err 4 ?_,λ_ _ h=>h.elim⟩;unfold Dk.read Dk.open;rw[hd];rfl
 ·refine⟨λ_ _=>False,err 11 ?_,λ_ _ h=>h.elim⟩;unfold Dk.read Dk.open;rw[hd,J];rfl
 ·have m:s.file i=f:=Dk.dI L;have D:=o.now.n (by decide);have y:s.read n page=if page<0 then ([],(12:Int)) else match f.az[page.toNat]? with|some p=>(p.1,(0:Int))|none=>([],(12:Int)):=by
   unfold Dk.read Dk.open;rw[hd,hi];simp[m]<;>rfl
  refine⟨λ_ H'=>H'=H/\0<=page/\page<f.az.length,?_,?_⟩
  ·refine aE rfl ?_;refine ah (λa=>?_) (λa=>?_)
   ·refine aR a (err 12 ?_);rw[y,if_pos (by simpa using a)]
   ·have z:¬page<0:=by simpa using a
    refine o.row.ld (c:=aq) (i:=0) (x:=C.now) rfl ?_;refine ah (λa=>err 12 ?_) (λa=>?_)
    ·simp at a;rw[y,if_neg z,Th (by omega)]
    ·simp at a;exact⟨rfl,by omega,by omega⟩
  ·rintro _ H0 ⟨rfl,h1,V⟩;obtain⟨pg,rfl⟩:∃k:Nat,page=k:=⟨page.toNat,by omega⟩;have A:pg<f.az.length:=by omega
   refine o.row.ld (c:=aq) (i:=0) (x:=C.now) rfl ?_;obtain⟨ad,G⟩:=bX.addr o.now.rd (by decide) (by omega);rw[G];refine⟨⟨by omega,by omega⟩,?_⟩;have a:f.az[pg]?=some f.az[pg]:=QK A;have u:=o.now.rd.row G a;have B:bW H0 ⟨cM (some (ad.add ((pg:Int).toNat*512))) 512 0 1,512 - 0,512 - 0⟩ f.az[pg].1:=by
    refine⟨by simp[eV,f.az[pg].2],?_⟩;rw[gZ,mu];intro j v I;have M:j<512:=by
     have:=(QJ.1 I).1;simpa[gP,f.az[pg].2] using this
    refine⟨_,rfl,?_⟩;obtain⟨cs,N,W,O⟩:=u;have:=O j M;rw[show vj.size=512 from rfl] at this;simp only[QP];rw[this];cases N;simp[vj];exact I
   refine gF B (by have:=f.az[pg].2;omega) λs' H' Q R f'=>?_;have S:s.read n pg=(f.az[pg].1,0):=by
    rw[y,if_neg (by omega)];simp[a]
   rw[S] at w;exact w s' H' Q R f'
theorem Kw:El QH eK fU 1 (.int .u8 0):=CL (z:=.int .u8 0) (zb:=tM .u8) ru rfl (by kernel_rfl)
theorem Ja (n:Nat)(x:UInt8):gP (Q6 n x)=Q6 n (.int .u8 (x.toNat:Int)):=by simp[gP]
theorem MN {H:aa}{s:Sl}{b:List UInt8}(h:aO H 0 fU 1 s (gP b)):aF EB fU H s b:=by
 unfold aF;rw[jc];exact h
theorem bW.Lj {H:aa}{s:Sl}{b:List UInt8}(h:bW H s b):gh H s.a s.n (cP b):=by
 have e:bytesOf (eV b)=cP b:=by
  unfold bytesOf cP eV;congr 1;rw[R8];have:((λx:Int=>Rv x.toNat)∘λx:UInt8=>(x.toNat:Int))=id:=by
   funext x;simp
  rw[this];simp
 rw[<-e];refine Ints.gh h λx a=>?_;unfold eV at a;obtain⟨y,_,rfl⟩:=QW.1 a;have:=y.toNat_lt;omega
theorem lC {H:aa}{s:Sl}{b:List UInt8}{K:ByteArray->Prop}(h:bW H s b)(a:K (cP b)):xw H s.a s.n K:=⟨_,h.Lj,a⟩
end
def JY:BitVec 32:=0xedb88320#32
def lY (r:BitVec 32):BitVec 32:=(r>>>1)^^^(if r.getLsbD 0 then JY else 0#32)
def lU (r:BitVec 32):BitVec 32:=lY (lY (lY (lY r)))
def Ag (r:BitVec 32)(c:UInt8):BitVec 32:=lU (lU (r^^^Uw 32 c.toNat))
def lZ:List (BitVec 32):=[0x00000000#32,0x1db71064#32,0x3b6e20c8#32,0x26d930ac#32,0x76dc4190#32,0x6b6b51f4#32,0x4db26158#32,0x5005713c#32,0xedb88320#32,0xf00f9344#32,0xd6d6a3e8#32,0xcb61b38c#32,0x9b64c2b0#32,0x86d3d2d4#32,0xa00ae278#32,0xbdbdf21c#32]
theorem Gs (a b:BitVec 32):lY (a^^^b)=lY a^^^lY b:=by
 unfold lY;rw[W6,YI];generalize a>>>1=x;generalize b>>>1=y;cases a.getLsbD 0<;>cases b.getLsbD 0<;>simp
 ·rw[U9]
 ·rw[U9,U9,Yb y]
 ·rw[U9,<-U9 JY,Yb JY y,U9 y,BitVec.xor_self,BitVec.xor_zero]
theorem FO (a b:BitVec 32):lU (a^^^b)=lU a^^^lU b:=by
 unfold lU;simp only[Gs]
theorem nw {a:BitVec 32}(h:a.getLsbD 0=false):lY a=a>>>1:=by
 unfold lY;rw[h];simp
theorem DT {a:BitVec 32}(h:∀i,i<4->a.getLsbD i=false):lU a=a>>>4:=by
 have b:lY a=a>>>1:=nw (h 0 (by decide));have c:lY (a>>>1)=a>>>2:=by
  rw[nw (by rw[Wm];exact h 1 (by decide)),<-WR]
 have f:lY (a>>>2)=a>>>3:=by
  rw[nw (by rw[Wm];exact h 2 (by decide)),<-WR]
 have g:lY (a>>>3)=a>>>4:=by
  rw[nw (by rw[Wm];exact h 3 (by decide)),<-WR]
 unfold lU;rw[b,c,f,g]
theorem GZ:∀n:Nat,n<16->lU (Uw 32 n)=lZ.getD n 0#32:=by decide
theorem Kk (r:BitVec 32):r=(r&&&0xfffffff0#32)^^^(r&&&15#32):=by
 apply BitVec.eq_of_getLsbD_eq;intro i hi;rw[YI,Xt,Xt];have:(0xfffffff0#32).getLsbD i=!((15#32).getLsbD i):=by
  revert i;decide
 rw[this];cases r.getLsbD i<;>cases (15#32).getLsbD i<;>rfl
theorem EP:∀i,i<4->(0xfffffff0#32).getLsbD i=false:=by decide
theorem GV (r:BitVec 32):r&&&15#32=Uw 32 (r.toNat%16):=by
 apply Yo;have h1:(15#32).toNat=2^4 - 1:=by decide
 rw[BitVec.toNat_and,h1,Nat.and_two_pow_sub_one_eq_mod,Tr];omega
theorem Cm (r:BitVec 32):(r&&&15#32)>>>4=0#32:=by
 rw[GV];apply Yo;rw[Va,Tr,U2];simp;omega
theorem Cz (r:BitVec 32):lU r=(r>>>4)^^^lZ.getD (r.toNat%16) 0#32:=by
 have h:=Kk r;have a:lU r=lU (r&&&0xfffffff0#32)^^^lU (r&&&15#32):=by rw[<-FO,<-h]
 have b:r>>>4=(r&&&0xfffffff0#32)>>>4:=by
  conv=>lhs;rw[h,W6,Cm]
  simp
 rw[a,b,DT (λi hi=>by rw[Xt,EP i hi,Bool.and_false]),GV,GZ _ (U1 _ (by decide))]
def O4 (x:Nat):Nat:=YS (ZA x 16) (YS (YS (ZB (ZC x 2) 0x1db71064) (ZB (ZC (ZA x 2) 2) 0x3b6e20c8)) (YS (ZB (ZC (ZA x 4) 2) 0x76dc4190) (ZB (ZC (ZA x 8) 2) 0xedb88320)))
def JE (r:Nat)(c:UInt8):Nat:=O4 (O4 (YS r c.toNat))
def fV (l:List UInt8):BitVec 32:= ~~~ (Uw 32 (l.foldl JE 4294967295))
theorem Kf:∀n,n<16->(lZ.getD n 0#32).toNat=(n%2*0x1db71064^^^n/2%2*0x3b6e20c8)^^^(n/4%2*0x76dc4190^^^n/8%2*0xedb88320):=by decide
theorem HA (r:BitVec 32):(lU r).toNat=O4 r.toNat:=by
 rw[Cz,Zb,Va,U2,Kf _ (U1 _ (by decide)),show r.toNat%16%2=r.toNat%2 by omega,show r.toNat%16/2%2=r.toNat/2%2 by omega,show r.toNat%16/4%2=r.toNat/4%2 by omega,show r.toNat%16/8%2=r.toNat/8%2 by omega];rfl
theorem JB (r:BitVec 32)(c:UInt8):(Ag r c).toNat=JE r.toNat c:=by
 unfold Ag JE;rw[HA,HA,Zb,Tr,Uh (Nat.lt_trans c.toNat_lt (by decide))];rfl
theorem fold_eq:∀(l:List UInt8) (r:BitVec 32),(l.foldl Ag r).toNat=l.foldl JE r.toNat
 |[],_=>rfl
 |c::l,r=>by rw[Tx,Tx,fold_eq l,JB]
theorem C2 (l:List UInt8):fV l= ~~~ (l.foldl Ag (V5 32)):=by
 have h:=fold_eq l (V5 32);have e:(V5 32).toNat=4294967295:=by decide
 rw[e] at h;unfold fV;rw[<-h,YJ,YK]
def qD (x:BitVec 32):List UInt8:=[Rv x.toNat,Rv (x.toNat/256),Rv (x.toNat/65536),Rv (x.toNat/16777216)]
def da (kind:UInt8)(b:List UInt8):List UInt8:=[Rv b.length,Rv (b.length/256),kind,157]++b++Q6 (504 - b.length) 0
def cT (kind:UInt8)(b:List UInt8):List UInt8:=qD (fV (da kind b))++da kind b
def bV (p:List UInt8):Nat:=(p.getD 4 0).toNat+256*(p.getD 5 0).toNat
def ja (p:List UInt8):Option (UInt8×List UInt8):=
 if bV p<=504/\cT (p.getD 6 0) ((p.drop 8).take (bV p))=p then some (p.getD 6 0,(p.drop 8).take (bV p)) else none
theorem kE {kind:UInt8}{b:List UInt8}(h:b.length<=504):(da kind b).length=508:=by
 simp[da];omega
theorem yl {kind:UInt8}{b:List UInt8}(h:b.length<=504):(cT kind b).length=512:=by
 simp[cT,kE h,qD]
theorem wM {p:List UInt8}(b:p.length=512):
  (bV p<=504/\cT (p.getD 6 0) ((p.drop 8).take (bV p))=p)↔(p.take 4=qD (fV (p.drop 4))/\bV p<=504/\p.getD 7 0=157/\∀c∈p.drop (8+bV p),c=0):=by
 match p,b with
 |a0::g::a2::a3::a4::a5::a::f::r,b=>
   have C:r.length=504:=by simp at b;exact b
   have hs:bV (a0::g::a2::a3::a4::a5::a::f::r)=a4.toNat+256*a5.toNat:=rfl;rw[hs];show (_/\cT a (r.take (a4.toNat+256*a5.toNat))=_)↔([a0,g,a2,a3]=qD (fV (a4::a5::a::f::r))/\_/\f=157/\_);have hd:(a0::g::a2::a3::a4::a5::a::f::r).drop (8+(a4.toNat+256*a5.toNat))=r.drop (a4.toNat+256*a5.toNat):=by
    rw[WW 8];rfl
   rw[hd];generalize D:a4.toNat+256*a5.toNat=n;have F:=a4.toNat_lt;have G:=a5.toNat_lt;by_cases hle:n<=504
   ·have hl:(r.take n).length=n:=by simp;omega
    have i:Rv n=a4:=by
     apply Tp.1;rw[TY];omega
    have j:Rv (n/256)=a5:=by
     apply Tp.1;rw[TY];omega
    have x:da a (r.take n)=a4::a5::a::157::(r.take n++Q6 (504 - n) 0):=by
     simp[da,hl,i,j]
    have y:(∀c∈r.drop n,c=0)↔r.take n++Q6 (504 - n) 0=r:=by
     constructor
     ·intro h;have:Q6 (504 - n) 0=r.drop n:=by
       symm;rw[List.eq_replicate_iff];exact⟨by simp;omega,h⟩
      rw[this,Tj]
     ·intro h c m;have e:r.drop n=Q6 (504 - n) 0:=by
       conv=>lhs;rw[<-h]
       rw[VX (by omega),RL (by omega)];simp
      rw[e] at m;exact(List.mem_replicate.1 m).2
    rw[y];unfold cT;rw[x];constructor
    ·rintro⟨_,h⟩;simp only[qD,List.cons_append,SY,List.cons.injEq] at h;obtain⟨o,q,u,v,_,_,_,z,w⟩:=h;rw[w] at o q u v;rw[<-z];refine⟨?_,hle,rfl,w⟩;simp only[qD,o,q,u,v]
    ·rintro⟨h1,_,A,B⟩;refine⟨hle,?_⟩;rw[B,<-A,<-h1];rfl
   ·constructor
    ·rintro⟨h,_⟩;exact absurd h hle
    ·rintro⟨_,h,_⟩;exact absurd h hle
theorem te (a:BitVec 32):SX 32 (a.toNat:Int)=a:=by
 rw[U3,YJ,YK]
theorem wrap32 {n:Nat}(h:n<4294967296):Ss.wrap (n:Int)=(n:Int):=by
 simp[Zo,Zp,YY];omega
theorem pR (n:Nat):RE.wrap (n:Int)=((Rv n).toNat:Int):=by
 rw[TY];simp[Zo,Zp,YY]
theorem qQ (a b:BitVec 32):jj .u32 (a.toNat:Int) (b.toNat:Int)=((a^^^b).toNat:Int):=by
 unfold jj;show Ss.wrap ((SX 32 (a.toNat:Int)^^^SX 32 (b.toNat:Int)).toNat:Int)=_;rw[te,te];exact wrap32 (a^^^b).isLt
theorem Hu (a:BitVec 32):mS .u32 (a.toNat:Int) 15=((a.toNat%16:Nat):Int):=by
 unfold mS;show Ss.wrap ((SX 32 (a.toNat:Int)&&&15#32).toNat:Int)=_;rw[te,GV];rw[Tr];have:a.toNat%16%2^32=a.toNat%16:=by omega
 rw[this];exact wrap32 (by omega)
theorem ue (a:BitVec 32)(k:Nat)(hk:k<=32):dQ .u32 (a.toNat:Int) (k:Int)=((a.toNat/2^k:Nat):Int):=by
 unfold dQ;have:min (k:Int).toNat Ss.bits=k:=by
  show min (k:Int).toNat 32=k;omega
 rw[this,Wn _ (ZD (by decide)),Int.natCast_ediv,Int.natCast_pow];rfl
def bt:Nat:=0
def Gl (H:aa):Prop:=∀i,i<16->dh H ⟨bt,i,none⟩=some (.int .u32 ((lZ.getD i 0#32).toNat:Int))
theorem Gl.lt {H:aa}(h:Gl H):bt<H.size:=j6 (h 0 (by decide))
theorem Gl.ar {H H':aa}(h:Gl H)(k:H'[bt]?=H[bt]?):Gl H':=λi hi=>(ib k).trans (h i hi)
theorem Gl.mod {F:Nat->Prop}{H H':aa}(h:Gl H)(hm:Mod F H H')(a:¬F bt):Gl H':=h.ar (hm.same _ h.lt a)
theorem yz {H:aa}(h:Gl H){i:Nat}(hi:i<16){K:Int->Prop}(b:K ((lZ.getD i 0#32).toNat:Int)){a:hY}(c:a=⟨bt,i,none⟩):ld (ab .u32) H a K:=by
 subst c;exact⟨_,h i hi,b⟩
def qT (l:List UInt8):BitVec 32:=l.foldl Ag (V5 32)
theorem wW (l:List UInt8)(c:UInt8):qT (l++[c])=Ag (qT l) c:=by simp[qT]
theorem toNat_ofNat32 (c:UInt8):(Uw 32 c.toNat).toNat=c.toNat:=by
 rw[Tr];have:=c.toNat_lt;omega
theorem My {l:List UInt8}{i:Nat}(h:i<l.length):(eV l).getD i 0=((l[i]).toNat:Int):=by
 simp[eV,RY,h]
theorem eR {l:List UInt8}{H:aa}{s:Sl}(h:bW H s l){i:Nat}(hi:i<l.length){z:Int}(b:z=(i:Int)){K:hY->Int->Prop}(c:∀ad,s.a=some ad->K ad ((l[i]).toNat:Int)):
  ae s.a λa=>(0<=z/\z<(s.n:Int))/\ld (ab .u8) H (a.add (z.toNat*1)) λx=>K a x:=
 jW (l:=eV l) h b (by simpa[eV] using hi) (λad f=>by rw[My hi];exact c ad f)
theorem Gf {s:Sl}{l:List UInt8}{H:aa}{K:Int->aa->Prop}(g:Gl H)(h:bW H s l)(hl:l.length<4611686018427387904)(m:K ((fV l).toNat:Int) H):J6.sp s H K:=by
 refine J6.of ?_;unfold J6.vc;have j:=h.n;refine av l.length (λk x H1=>H1=H/\x=(((qT (l.take k)).toNat:Int),(k:Int))) ⟨rfl,rfl⟩ ?_;rintro k _ _ next hk ⟨rfl,rfl⟩ a
 refine ah (λc=>?_) (λc=>?_)
 ·have b:k<l.length:=by rw[j] at c;simpa using c
  refine eR h b rfl λad q=>?_;have n:(l[k]).toNat<256:=(l[k]).toNat_lt;have o:jj .u32 ((qT (l.take k)).toNat:Int) (Ss.wrap (((l[k]).toNat:Nat):Int))=((qT (l.take k)^^^Uw 32 (l[k]).toNat).toNat:Int):=by
   rw[wrap32 (by omega),<-toNat_ofNat32 l[k],qQ,toNat_ofNat32]
  simp only[o];generalize p:qT (l.take k)^^^Uw 32 (l[k]).toNat=r;have half:∀(r:BitVec 32),jj .u32 (dQ .u32 (r.toNat:Int) 4) ((lZ.getD (r.toNat%16) 0#32).toNat:Int)=((lU r).toNat:Int):=by
   intro r;have h1:dQ .u32 (r.toNat:Int) 4=((r>>>4).toNat:Int):=by
    rw[show (4:Int)=((4:Nat):Int) from rfl,ue r 4 (by decide),Va,U2]
   rw[h1,qQ,<-Cz]
  rw[Hu];refine⟨⟨by omega,by omega⟩,?_⟩;refine yz g (i:=r.toNat%16) (U1 _ (by decide)) ?_ (by rw[QP,Rz,bg];rfl);rw[half,Hu];refine⟨⟨by omega,by omega⟩,?_⟩;refine yz g (i:=(lU r).toNat%16) (U1 _ (by decide)) ?_ (by rw[QP,Rz,bg];rfl);rw[half];refine a b _ _ ⟨rfl,?_⟩;have hs:=aD k (by omega);rw[hs,QO b,wW];unfold Ag;rw[p]
 ·have f:k=l.length:=by rw[j] at c;simp at c;omega
  rw[f,QS (QN _)];have e:jj .u32 (4294967295:Int) ((qT l).toNat:Int)=((fV l).toNat:Int):=by
   rw[C2,show (4294967295:Int)=((V5 32).toNat:Int) from rfl,qQ];congr 2
  rw[e];exact m
theorem Gy {P:hQ}{g i ty elem t:ic}{H:aa}{b o dl m:Nat}{x:Sl}{cur:Array gp}{cs:List gp}{K:Int->aa->Prop}(hu:P.underlying g=some (.slice elem))(hs:(P.info? elem).map (·.size)=some 1)
  (h:ao H b t cur) (q:Reads H x.a cs) (u:x.n=cs.length) (hle:x.n<=dl) (a:o+cs.length<=cur.size) (h1:∀v∈cs,v.oneCell'=true)
  (y:∀H',ao H' b t (cur.toList.take o++cs++cur.toList.drop (o+cs.length)).toArray->Mod (λk=>k=b) H H'->H'.size=H.size->K (cs.length:Int) H'):
  bf (ab .i64) P (Wf #[g,i] ty #[.slice (some ⟨b,o,none⟩) dl m,x.v]) H K:=by
 intro w hw;subst hw;obtain⟨C,z,A⟩:=x;simp only[Sl.v] at*;by_cases B:cs=[]
 ·subst B;have n:z=0:=u;subst n;have p:=run_copy_none (P:=P) w g i ty elem (some ⟨b,o,none⟩) C dl m 0 A hu hs (by simp);refine⟨_,w,p,⟨0,rfl,?_⟩,.refl w⟩;refine y w.heap ?_ (.refl _ _) rfl;have e:(cur.toList.take o++[]++cur.toList.drop (o+([]:List gp).length)).toArray=cur:=by simp
  rw[e];exact h
 ·have c:0<cs.length:=List.length_pos_iff.2 B;obtain⟨ad,rfl,_⟩:=q.at c;have f:∀j v,cs[j]?=some v->w.cell? (ad.add j)=some v:=λj v D=>by
   obtain⟨F,e,G⟩:=q j v D;cases e;exact G
  have p:=run_copy_row (P:=P) w g i ty elem b o dl m ad z A cur t cs hu hs h (by rw[<-u];exact(TL hle).symm) f a h1;refine⟨_,_,p,⟨(cs.length:Int),rfl,y _ (setRow_heap w b cur _ t _ h) ⟨by simp[TK],λk _ hk=>setRow_other w b k _ hk⟩ (by simp[TK])⟩,(.of_le rfl (QN _))⟩
abbrev pr (H:aa)(b:Nat)(t:ic)(l:List UInt8):Prop:=ao H b t (gP l).toArray
theorem pr.st {H:aa}{b:Nat}{t:ic}{l:List UInt8}{K:aa->Prop}(h:pr H b t l){i:Nat}{x:UInt8}(hi:i<l.length)(a:∀H',pr H' b t (l.set i x)->Mod (λk=>k=b) H H'->H'.size=H.size->K H'):
  pw H (Ru ⟨b,0,none⟩ i) (.int .u8 (x.toNat:Int)) K:=by
 refine ao.st h (i:=i) (by simpa[gP] using hi) rfl λH' r m s=>a H' ?_ m s;have e:((gP l).toArray.setIfInBounds i (.int .u8 (x.toNat:Int)))=(gP (l.set i x)).toArray:=by
  apply Za.1;simp[gP]
 rw[e] at r;exact r
theorem pr.NW {H:aa}{b:Nat}{t:ic}{l:List UInt8}(h:pr H b t l){o n c:Nat}(f:o+n<=l.length):bW H (Sl.mk (some ⟨b,o,none⟩) n c) ((l.drop o).take n):=by
 refine⟨by simp[eV];omega,λi v a=>⟨_,rfl,?_⟩⟩;rw[gZ] at a;rw[add_lit];refine cC h ?_;have hi:i<n:=by have:=(QJ.1 a).1;simp[gP] at this;omega
 simp only[gP,QV,RF,if_pos hi,Si] at a;simp only[gP,List.getElem?_toArray,QV];exact a
theorem vC {α:Type}{A B:List α}{k:Nat}{x:α}(hk:k<A.length)(b:k<B.length)(a:A[k]?=some x):(A.take k++B.drop k).set k x=A.take (k+1)++B.drop (k+1):=by
 have hl:(A.take k).length=k:=by simp;omega
 rw[V3 _ _ (by omega),hl,Nat.sub_self];have e:B.drop k=B[k]::B.drop (k+1):=Rw b;rw[e,Tq,QO hk];have:A[k]=x:=by rw[QK hk] at a;exact Rc a
 rw[this];simp
theorem Kz:QH.underlying eK=some (.slice fU):=by kernel_rfl
theorem ME:(QH.info? fU).map (·.size)=some 1:=by kernel_rfl
theorem Nk:zc QH Nv=(gP (Q6 512 0)).toArray:=by kernel_rfl
theorem ML:Q6 512 (0:UInt8)=0::0::0::0::0::0::0::0::Q6 504 0:=rfl
set_option maxRecDepth 20000 in
theorem Ki {kind:UInt8}{s:Sl}{l:List UInt8}{H:aa}{K:Sl×Int->aa->Prop}(N:Gl H)(a:bW H s l)(hlen:l.length<=504)
  (O:∀s' H',aF EB fU H' s' (cT kind l)->Ext H H'->(∀b,ai s' b->H.size<=b)->K (s',0) H'):Ln.sp (kind.toNat:Int) s H K:=by
 refine Ln.of ?_;unfold Ln.vc;have w:=a.n;refine aE (by simp;omega) ?_;rw[Nk];refine au λH1 s1 I f=>?_;rw[ML] at I;have X:bW H1 s l:=a.ar λad _ hl=>f.same _ hl id;refine⟨⟨by decide,by decide⟩,?_⟩;have v4:RE.wrap (s.n:Int)=((Rv l.length).toNat:Int):=by rw[w,pR]
 have v5:RE.wrap (dQ .i64 (s.n:Int) 8)=((Rv (l.length/256)).toNat:Int):=by
  have:dQ .i64 (s.n:Int) 8=((l.length/256:Nat):Int):=by
   unfold dQ;rw[w,show (min (8:Int).toNat QI.bits)=8 from rfl,Wn _ (ZD (by decide))];rfl
  rw[this,pR]
 rw[v4];refine pr.st (i:=4) I (by simp) λY r2 m2 z2=>?_;refine⟨⟨by decide,by decide⟩,?_⟩;rw[v5];refine pr.st (i:=5) r2 (by simp) λZ Q m3 z3=>?_;refine⟨⟨by decide,by decide⟩,?_⟩;refine pr.st (i:=6) Q (by simp) λH4 R m4 z4=>?_;refine⟨⟨by decide,by decide⟩,?_⟩;refine pr.st (i:=7) (x:=157) R (by simp) λz S m5 z5=>?_;refine⟨⟨by decide,by decide⟩,?_⟩;have m15:Mod (λb=>b=H.size) H1 z:=((m2.trans m3).trans m4).trans m5;have A:Ext H z:=⟨by have:=f.size;have:=m15.size;omega,λb a _=>(m15.same b (by omega) (by omega)).trans (f.same b a id)⟩;have T:bW z s l:=a.ar λad _ hl=>A.same _ hl id;have U:cM (some ⟨H.size,0,none⟩) 512 ((8:Int).toNat) 1=some ⟨H.size,8,none⟩:=rfl;rw[U];refine Gy (t:=Nv) Kz ME S T.cells (by rw[w];simp[gP]) (by rw[w];show _<=504;omega) (by simp[gP];omega) (by
  intro v B;obtain⟨x,_,rfl⟩:=QW.1 B;rfl) λy J m6 z6=>?_
 have L6:(0::0::0::0::da kind l:List UInt8)=[0,0,0,0]++da kind l:=rfl;have m:pr y H.size Nv ([0,0,0,0]++da kind l):=by
  have e:(((gP (((((0::0::0::0::0::0::0::0::Q6 504 0:List UInt8).set 4 (Rv l.length)).set 5 (Rv (l.length/256))).set 6 kind).set 7 157)).toArray.toList.take 8++gP l)++(gP (((((0::0::0::0::0::0::0::0::Q6 504 0:List UInt8).set 4 (Rv l.length)).set 5 (Rv (l.length/256))).set 6 kind).set 7 157)).toArray.toList.drop (8+(gP l).length)).toArray=(gP ([0,0,0,0]++da kind l)).toArray:=by
   congr 1;simp only[VG,Tq,gP,Q7,Ue,Xm,Rm,da,Rg,List.map_replicate];rw[show 8+l.length=l.length+8 from WW _ _];simp only[Yz,List.drop_replicate];simp
  rw[e] at J;exact J
 have m16:Mod (λb=>b=H.size) H1 y:=m15.trans m6;have C:Ext H y:=⟨by have:=f.size;have:=m16.size;omega,λb a _=>(m16.same b (by omega) (by omega)).trans (f.same b a id)⟩;refine⟨⟨by decide,by decide⟩,?_⟩;have a4:cM (some ⟨H.size,0,none⟩) 512 ((4:Int).toNat) 1=some ⟨H.size,4,none⟩:=rfl;rw[a4];have g:=kE (kind:=kind) hlen;have p:=pr.NW m (o:=4) (n:=508) (c:=508) (by simp[g]);have V:(([0,0,0,0]++da kind l:List UInt8).drop 4).take 508=da kind l:=by
  show (da kind l).take 508=_;rw[QS (by omega)]
 rw[V] at p;refine Gf (N.mod C id) p (by omega) ?_;refine av 4 (λk x q=>x=(k:Int)/\pr q H.size Nv ((qD (fV (da kind l))).take k++([0,0,0,0]++da kind l).drop k)/\Mod (λb=>b=H.size) y q) ⟨rfl,m,.refl _ _⟩ ?_;rintro k _ q next hk ⟨rfl,D,m7⟩ h
 refine ah (λF=>?_) (λF=>?_)
 ·have j:k<4:=by simp at F;omega
  have hw:QI.wrap ((8:Int)*(k:Int))=((8*k:Nat):Int):=by rw[wrap64 (by omega) (by omega)];omega
  rw[hw];refine⟨by omega,⟨by omega,by omega⟩,?_⟩;have B:(qD (fV (da kind l)))[k]?=some (Rv ((fV (da kind l)).toNat/2^(8*k))):=by
   have:k=0\/k=1\/k=2\/k=3:=by omega
   rcases this with rfl|rfl|rfl|rfl<;>simp[qD]
  rw[ue _ (8*k) (by omega),pR,QP,Rz];refine pr.st (i:=k) D (by simp[qD,g];omega) λH8 L m8 z8=>?_;rw[vC (by simp[qD];omega) (by simp[g];omega) B] at L;exact h j _ _ ⟨aD k (by omega),L,m7.trans m8⟩
 ·have j:k=4:=by simp at F;omega
  subst j;have G:pr q H.size Nv (cT kind l):=by
   have e:(qD (fV (da kind l))).take 4++([0,0,0,0]++da kind l:List UInt8).drop 4=cT kind l:=rfl;rw[e] at D;exact D
  have hsl:=yl (kind:=kind) hlen;have u:=pr.NW G (o:=0) (n:=512) (c:=512) (by omega);rw[List.drop_zero,QS (by omega)] at u;have a0:cM (some ⟨H.size,0,none⟩) 512 0 1=some ⟨H.size,0,none⟩:=rfl;rw[a0];refine gF u (by omega) λs' H' W M f'=>?_;have m17:Mod (λb=>b=H.size) H1 q:=m16.trans m7;have z1:=f.size;have z7:=m17.size;have z':=M.size;refine O s' H' W ⟨by omega,λb a _=>(M.same b (by omega) id).trans ((m17.same b (by omega) (by omega)).trans (f.same b a id))⟩ (λb a=>?_);have:=f' b a;omega
theorem bW.drop {H:aa}{s:Sl}{l:List UInt8}(h:bW H s l)(f:s.n<=s.c)(i:Nat):bW H (Sl.mk (cM s.a s.c i 1) (s.n - i) (s.c - i)) (l.drop i):=by
 have b:=h.n;refine⟨by simp[eV,b],?_⟩;have:=bX.drop (E:=EB) (i:=i) (c:=s.c) (a:=s.a) (l:=l) (by unfold bX;rw[jc];exact h.cells) (by omega);unfold bX at this;rw[jc] at this;rw[gZ];exact this
theorem bW.take {H:aa}{s:Sl}{l:List UInt8}(h:bW H s l)(i:Nat)(hi:i<=s.n)(c:Nat):bW H (Sl.mk s.a i c) (l.take i):=by
 have a:=h.n;refine⟨by simp[eV];omega,?_⟩;rw[gZ];have:gP (l.take i)=(gP l).take i:=by simp[gP]
 rw[this];exact h.cells.take i
theorem Ez {s:Sl}{l:List UInt8}{H:aa}{K:Int->aa->Prop}(m:bW H s l)(hl:l.length<4611686018427387904)(n:∀r:Int,(decide (r>=0))=l.any (λc=>c !=0)->K r H):Mj.sp s H K:=by
 refine Mj.of ?_;unfold Mj.vc;have o:=m.n;refine av l.length (λk x H1=>H1=H/\x=(k:Int)/\(l.take k).any (λc=>c !=0)=false) ⟨rfl,rfl,by simp⟩ ?_;rintro k _ _ next hk ⟨rfl,rfl,b⟩ f
 refine ah (λg=>?_) (λg=>?_)
 ·have a:k<l.length:=by rw[o] at g;simpa using g
  refine eR m a rfl λad q=>?_;refine IW.of ?_;unfold IW.vc;have ex:l=l.take k++l[k]::l.drop (k+1):=by
   rw[<-Rw a,Tj]
  refine ah (λh=>?_) (λh=>?_)
  ·have i:l[k]≠0:=by
    intro e;rw[e] at h;simp at h
   refine n _ ?_;have p:l.any (λc=>c !=0)=true:=S9.2 ⟨l[k],Re a,by simpa using i⟩;rw[p];simp
  ·have he:l[k]=0:=by
    have:((l[k]).toNat:Int)=0:=by simpa using h
    exact Tp.1 (by rw[UInt8.toNat_zero];omega)
   refine f a _ _ ⟨rfl,aD k (by omega),?_⟩;rw[QO a,List.any_append,b,he];rfl
 ·have j:k=l.length:=by rw[o] at g;simp at g;omega
  rw[j,QS (QN _)] at b;refine n _ ?_;rw[b];rfl
theorem yb {s:Sl}{l:List UInt8}{H:aa}{K:Bool->aa->Prop}(a:bW H s l)(hl:l.length<4611686018427387904)(b:K (l.any (λc=>c !=0)) H):LA.sp s H K:=by
 refine LA.of ?_;unfold LA.vc;refine Ez a hl λr f=>?_;rw[f];exact b
theorem JD {a b:Nat}(g:a<256)(h:b<256):AN .i64 (QI.wrap (a:Int)) (lW .i64 (QI.wrap (b:Int)) 8)=((a+256*b:Nat):Int):=by
 rw[wrap64 (by omega) (by omega),wrap64 (x:=(b:Int)) (by omega) (by omega)];have c:lW .i64 (b:Int) 8=((b*256:Nat):Int):=by
  unfold lW;rw[show (min (8:Int).toNat QI.bits)=8 from rfl,wrap64 (by omega) (by omega)];omega
 rw[c];unfold AN;show QI.wrap ((SX 64 (a:Int)|||SX 64 ((b*256:Nat):Int)).toNat:Int)=_;rw[U3,U3,BitVec.toNat_or,Tr,Tr,Uh (by omega),Uh (by omega)];have f:a|||b*256=a+256*b:=by
  have:=Nat.shiftLeft_add_eq_or_of_lt (i:=8) (b:=a) (by omega) b;rw[Nat.shiftLeft_eq] at this;rw[Nat.or_comm,show b*256=b*2^8 from rfl,<-this];omega
 rw[f];exact wrap64 (by omega) (by omega)
theorem kH {l:List UInt8}(h:l.length=512)(a:¬(l.take 4=qD (fV (l.drop 4))/\bV l<=504/\l.getD 7 0=157/\∀c∈l.drop (8+bV l),c=0)):ja l=none:=by
 unfold ja;rw[if_neg (λq=>a ((wM h).1 q))]
theorem Cr {l:List UInt8}(h:l.length=512)(a:l.take 4=qD (fV (l.drop 4))/\bV l<=504/\l.getD 7 0=157/\∀c∈l.drop (8+bV l),c=0):ja l=some (l.getD 6 0,(l.drop 8).take (bV l)):=by
 unfold ja;rw[if_pos ((wM h).2 a)]
set_option maxRecDepth 20000 in
theorem KG {s:Sl}{l:List UInt8}{H:aa}{K:(Int×Sl×Int)->aa->Prop}(U:Gl H)(h:bW H s l)(hl:l.length<4611686018427387904)(g:s.n<=s.c)
  (V:l.length≠512->K (0,Sl.mk none 0 0,2) H) (D:l.length=512->ja l=none->K (0,Sl.mk none 0 0,20) H)
  (W:∀k b s' H',l.length=512->ja l=some (k,b)->b.length<=504->aF EB fU H' s' b->Ext H H'->(∀b,ai s' b->H.size<=b)->K ((k.toNat:Int),s',0) H'):LL.sp s H K:=by
 refine LL.of ?_;unfold LL.vc;have R:=h.n;refine ah (λj=>V (by rw[R] at j;simp at j;omega)) (λj=>?_);have a:l.length=512:=by rw[R] at j;simp at j;omega
 refine⟨⟨by decide,by omega⟩,?_⟩;have d4:=h.drop g 4;refine Gf U d4 (by simp;omega) ?_;refine av 4 (λk x H1=>H=H1/\x=(k:Int)/\l.take k=(qD (fV (l.drop 4))).take k) ⟨rfl,rfl,rfl⟩ ?_;rintro k _ _ next hk ⟨rfl,rfl,heq⟩ o
 refine ah (λj=>?_) (λj=>?_)
 ·have m:k<4:=by simp at j;omega
  have p:k<l.length:=by omega
  refine eR h p rfl λad G=>?_;have hw:QI.wrap ((8:Int)*(k:Int))=((8*k:Nat):Int):=by rw[wrap64 (by omega) (by omega)];omega
  rw[hw];refine⟨by omega,?_⟩;rw[ue _ (8*k) (by omega),pR];have I:(qD (fV (l.drop 4)))[k]?=some (Rv ((fV (l.drop 4)).toNat/2^(8*k))):=by
   have:k=0\/k=1\/k=2\/k=3:=by omega
   rcases this with rfl|rfl|rfl|rfl<;>simp[qD]
  refine ah (λf=>?_) (λf=>?_)
  ·refine D a (kH a λq=>?_);have F:(l.take 4)[k]?=some l[k]:=by rw[RF,if_pos m,QK p]
   rw[q.1,I] at F;rw[Rc F] at f;simp at f
  ·have F:l[k]=Rv ((fV (l.drop 4)).toNat/2^(8*k)):=by
    refine Tp.1 ?_;have:((l[k]).toNat:Int)=((Rv ((fV (l.drop 4)).toNat/2^(8*k))).toNat:Int):=by simpa using f
    omega
   refine o m _ _ ⟨rfl,aD k (by omega),?_⟩;have n:k<(qD (fV (l.drop 4))).length:=by simp[qD];omega
   rw[QO p,QO n,heq];rw[QK n] at I;rw[Rc I,F]
 ·have m:k=4:=by simp at j;omega
  subst m;have w:l.take 4=qD (fV (l.drop 4)):=by
   rw[heq];exact QS (by simp[qD])
  refine eR (i:=4) (z:=4) h (by omega) rfl λ_ _=>?_;refine eR (i:=5) (z:=5) h (by omega) rfl λ_ _=>?_;have J:AN .i64 (QI.wrap ((l[4]).toNat:Int)) (lW .i64 (QI.wrap ((l[5]).toNat:Int)) 8)=(bV l:Int):=by
   rw[JD (l[4]).toNat_lt (l[5]).toNat_lt];unfold bV;simp[RY,QK (show 4<l.length by omega),QK (show 5<l.length by omega)]
  rw[J];refine ah (λf=>D a (kH a λq=>?_)) (λf=>?_)
  ·have:=q.2.1;simp at f;omega
  have hle:bV l<=504:=by simp at f;omega
  refine eR (i:=7) (z:=7) h (by omega) rfl λ_ _=>?_;have S:l.getD 7 0=l[7]:=by simp[RY,QK (show 7<l.length by omega)]
  refine ah (λf=>D a (kH a λq=>?_)) (λf=>?_)
  ·have:=q.2.2.1;rw[S] at this;rw[this] at f;simp at f
  have L:l.getD 7 0=157:=by
   rw[S];refine Tp.1 ?_;have:((l[7]).toNat:Int)=157:=by simpa using f
   rw[show (157:UInt8).toNat=157 from rfl];omega
  have M:QI.wrap ((8:Int)+(bV l:Int))=((8+bV l:Nat):Int):=by rw[wrap64 (by omega) (by omega)];omega
  rw[M,QP];refine⟨⟨by omega,by omega⟩,?_⟩;refine yb (h.drop g (8+bV l)) (by simp;omega) ?_;refine ah (λf=>D a (kH a λq=>?_)) (λf=>?_)
  ·obtain⟨c,u,y⟩:=S9.1 f;rw[q.2.2.2 c u] at y;simp at y
  have N:∀c∈l.drop (8+bV l),c=0:=by
   intro c u;have:=List.any_eq_false.1 f c u;simpa using this
  have A:=Cr a ⟨w,hle,L,N⟩;refine⟨λH'=>Ext H H',.refl _ _,?_⟩;have B:6<l.length:=by omega
  have O:∀H',Ext H H'->bW H' s l:=λH' e=>h.ar λad _ hl=>e.same _ hl id;obtain⟨ad,G,_⟩:=h.addr (by omega);refine aZ ad G ⟨⟨by decide,by omega⟩,((l[6]).toNat:Int),λH' e=>?_,?_⟩
  ·have v:=(O H' e).at (i:=6) (by simp[eV];omega);obtain⟨X,C,v⟩:=v;rw[G] at C;cases C;rw[show (6:Int).toNat*1=6 from rfl,v];simp[eV]
  ·refine⟨⟨by omega,by omega⟩,⟨by decide,by omega⟩,?_⟩;have Q:=(h.drop g 8).take (bV l) (by show _<=s.n - 8;omega) (s.c - 8);have Y:(8+bV l) - (8:Int).toNat=bV l:=by show 8+bV l - 8=_;omega
   rw[Y];refine gF Q (by simp;omega) λs' H' Z T f'=>⟨T,?_⟩;have h6:l.getD 6 0=l[6]:=by simp[RY,QK B]
   rw[h6] at A;exact W l[6] _ s' H' a A (by simp;omega) Z T f'
section
open Go.RowKit Go.WideShapes Go.ChangeShapes Go.WideElems
section
variable {H:Type}{enc:ic×gp->H}{P:hQ}
theorem qp {W a:gb}(he:Ext W.heap a.heap)(b:Alike W a):Below W.heap.size W {a with tape:=W.tape}:=
 ⟨b.os,rfl,b.output,he.size,λk hk=>he.same k hk id⟩
theorem rU (hl:laidOutB P=true){W g:gb}(he:Ext W.heap g.heap)(m:Alike W g){sp:Nat->Bool}:∀{f:List ic} {vs:List gp} {ds:List (pb H)} {ps:List MemPlace},
  (∀t∈f,P.readableRec t=true/\t<P.types.size)->Wg enc P W 0 (λ_=>true) true f vs ds ps->(∀p∈ps,p.block<W.heap.size)->(∀p∈ps,sp p.block=true)->Wg enc P g 0 sp true f vs ds ps
 |[],[],[],ps,_,h,_,_=>h
 |t::f,v::vs,d::ds,ps,i,h,b,c=>by
   obtain⟨p,q,h1,n,rfl⟩:=h;have o:=qp he m;refine⟨p,q,Trod_stays hl (i t Q9).1 (i t Q9).2 h1 (λx a=>?_) (λx a=>c x (Wh _ a)),rU hl he m (λu j=>i u (Q8 _ j)) n (λx a=>b x (Yp _ a)) (λx a=>c x (Yp _ a)),rfl⟩;exact o.same (b x (Wh _ a))
 |[],_::_,_,_,_,h,_,_=>h.elim
 |[],[],_::_,_,_,h,_,_=>h.elim
 |_::_,[],_,_,_,h,_,_=>h.elim
 |_::_,_::_,[],_,_,h,_,_=>h.elim
theorem Hw {f:Func}{s:ChangeSpec}{apart fresh handsOn again:Bool}{W u:gb}{args:Array gp}{ds gs:List (pb H)}{before:List MemPlace}{J:ic}
  (hl:laidOutB P=true) (M:∀t∈f.params.toList,P.readableRec t=true/\t<P.types.size) (v:f.resultTypes=#[J]) (w:P.underlying J=some .bool) (y:s.vars=[])
  (z:(s.fn H (ds++gs)).results=[.lit (.bool true)]) (m:(s.fn H (ds++gs)).args=ds) (n:(s.fn H (ds++gs)).vars=[])
  (B:DataW.Whole enc P f.params.toList s.vars apart W args.toList ds gs before) (he:Ext W.heap u.heap) (K:Alike W u):
  s.post enc P f apart fresh handsOn again W args (.bool true) u:=by
 have L:=qp he K;obtain⟨p,q,N,C,j,D,F⟩:=id B;rw[y] at C;have O:q=[]:=by
  cases gs with
  |nil=>exact C
  |cons g r=>exact C.elim
 subst O;rw[Tl] at j;have o:∀x∈before,x.block<W.heap.size:=λx i=>B.lt x i;have hold:∀x∈before,(λb=>decide (b<W.heap.size)) x.block=true:=λx i=>by simpa using o x i
 have a:∀(b:Nat) (sp:Nat->Bool) (hd:Bool),Wg enc P u b sp hd f.resultTypes.toList ((WH true).resultList f.resultTypes.size) (s.fn H (ds++gs)).results []:=by
  intro b sp hd;rw[z,v];exact trodAll_mk1 (shut_bool w true)
 have c:∀sp:Nat->Bool,(∀x∈before,sp x.block=true)->Wg enc P u 0 sp true f.params.toList args.toList (s.fn H (ds++gs)).args before:=by
  intro sp G;rw[m,j];exact rU hl he K M N (λx i=>o x (by rw[j];exact i)) (λx i=>G x (by rw[j];exact i))
 have h:∀sp:Nat->Bool,DataW.TrodVars enc P u sp s.vars (s.fn H (ds++gs)).vars []:=by
  intro sp;rw[n,y];rfl
 refine⟨ds,gs,before,[],before,[],B,a _ _ _,c _ hold,h _,World.keptBut_mono (λx i=>⟨i,Or.inr (by simpa using i)⟩) (L.frame (·∈before)),λ_=>?_⟩;refine⟨ok_one v rfl (okWide_bool_mk w _),_,_,([]++before)++[],⟨[]++before,[],trodAll_append (c _ (λ_ _=>rfl)) (a _ _ _),h _,rfl,?_,?_⟩,?_⟩
 ·intro b off Q;have A:MemPlace.cell b off∈before:=by simpa using Q
  have:=L.frozen (p:=⟨b,off,none⟩) (o _ A);exact this.trans (D b off A)
 ·intro I;simpa using F I
 ·intro x i _;simpa using i
end
end
section
open Go.ChangeShapes Go.WideShapes Go.ChangeAt Go.RowKit
theorem DI:ownKnob QH.godebug=none:=by kernel_rfl
theorem uY:laidOutB QH=true:=by kernel_rfl
def Ak:List (String×pb Unit):=[("math/bits.deBruijn32tab",Rows.laid_math_bits_deBruijn32tab),("math/bits.deBruijn64tab",Rows.laid_math_bits_deBruijn64tab),("internal/strconv.uint64pow10",Rows.laid_internal_strconv_uint64pow10),("fathom/page.steps",Rows.laid_fathom_page_steps)]
def Kd:List (pb Unit):=lZ.map λb=>.lit (.int .u32 (b.toNat:Int))
theorem JL:(Rows.laid_fathom_page_steps:pb Unit)=.agg Kd:=by rfl
theorem Cd {W:gb}(h:laidMetH QH Ak W):Gl W.heap:=by
 rw[ZE _ _ _ (by kernel_rfl)] at h;obtain⟨ps,⟨_,_,_,_,_,_,_,_,_,_,⟨_,_,_,_,_,_,_,_,_,_,⟨_,_,_,_,_,_,_,_,_,_,⟨g0,t0,c,f0,G,I,f,o,p,q,_,_⟩,_⟩,_⟩,_⟩,_,_⟩:=h;obtain rfl:=Rc ((show QH.globalNamed "fathom/page.steps"=some bt by kernel_rfl).symm.trans f);obtain rfl:=Rc ((show (QH.globals[bt]?).map (·.type)=some 296 by kernel_rfl).symm.trans o);obtain⟨xs,m,_,z,hlen,J,u⟩:=DataW.trod_array (n:=16) (e:=256) (by kernel_rfl) q;have g:Kd=xs.map (·.1):=by
  have h1:(Rows.laid_fathom_page_steps:pb Unit)=.agg (xs.map (·.1)):=(Prod.mk.inj z).1;rw[JL] at h1;exact acB h1
 intro i hi;have a:=u i hi;rw[show QH.cellsOf 256=1 by kernel_rfl,Rz] at a;have j:i<xs.length:=by omega
 rw[QK j] at a;obtain⟨k,A,B,_⟩:=DataW.trod_int (k:=.u32) (by kernel_rfl) a;have hk:Kd[i]?=some (.lit (.int .u32 k)):=by rw[g,QV,QK j,B];rfl
 unfold Kd at hk;rw[QV] at hk;obtain⟨b,C,D⟩:=TP.1 hk;have F:k=(b.toNat:Int):=by
  have:=D;simp only[acu,Lit.int.injEq,true_and] at this;exact this.symm
 have v:lZ.getD i 0#32=b:=by simp[RY,C]
 rw[v,<-F];have x:=World.var?_cell f p i;have w:c[i]?=some (.int .u32 k):=by
  have y:((c.toList.drop i).take 1)[0]?=some (QT .u32 k):=by rw[A];rfl
  rw[RF,if_pos (by decide),Si,Nat.add_zero] at y;simpa using y
 rw[w] at x;exact x
theorem HP (os:Os)(args:Array gp):laidMetH QH Ak ((World.doorLaid QH 400 os).forCall (λ_ _=>0) ⟨#[],args,[]⟩).memory:=
 laidMetH_of_parts3 (fuel:=8) (laidMet_of_run' 8 (by kernel_rfl) (by kernel_rfl)) (by kernel_rfl) (by kernel_rfl)
end
section
open Go.RowKit Go.WideShapes Go.ChangeShapes Go.WideElems
section
variable {P:hQ}{w:gb}{r:Reach}{base:Nat}{t:ic}{v:gp}
end
end
section
open Go.RowKit Go.WideShapes Go.ChangeShapes Go.WideElems
section
variable {H:Type}{enc:ic×gp->H}{P:hQ}{w:gb}{base:Nat}{spare:Nat->Bool}{held:Bool}
end
end
section
open Go.Shelf
def pd:XU:=⟨λ|6=>187|15=>152|14=>229|28=>199|29=>200|20=>255|21=>256|22=>257|23=>258|24=>259|25=>260|26=>261|27=>262|46=>274|47=>231|48=>232|49=>275|50=>276|57=>280|n=>n,λ|22=>218|24=>170|25=>245|3=>3|39=>223|0=>0|53=>256|55=>44|4=>4|46=>250|45=>249|50=>186|5=>5|9=>9|66=>278|70=>282|76=>303|77=>304|n=>n,λ|n=>n⟩
theorem Ij:Wi QH pd:={
 mixed:=by kernel_rfl,
 f6:=⟨abt.name,by decide,aak.trans (congrArg some (by kernel_rfl))⟩,
 f14:=⟨abu.name,by decide,aal.trans (congrArg some (by kernel_rfl))⟩,
 f15:=VO.trans (congrArg some (by kernel_rfl)),
 f20:=⟨abv.name,by decide,aam.trans (congrArg some (by kernel_rfl))⟩,
 f21:=⟨abw.name,by decide,aan.trans (congrArg some (by kernel_rfl))⟩,
 f22:=⟨abx.name,by decide,aao.trans (congrArg some (by kernel_rfl))⟩,
 f23:=⟨aby.name,by decide,aap.trans (congrArg some (by kernel_rfl))⟩,
 f24:=⟨abz.name,by decide,aaq.trans (congrArg some (by kernel_rfl))⟩,
 f25:=⟨abA.name,by decide,aar.trans (congrArg some (by kernel_rfl))⟩,
 f26:=⟨abB.name,by decide,aas.trans (congrArg some (by kernel_rfl))⟩,
 f27:=⟨abC.name,by decide,aat.trans (congrArg some (by kernel_rfl))⟩,
 f28:=VP.trans (congrArg some (by kernel_rfl)),
 f29:=VQ.trans (congrArg some (by kernel_rfl)),
 f46:=⟨abD.name,by decide,aau.trans (congrArg some (by kernel_rfl))⟩,
 f47:=VR.trans (congrArg some (by kernel_rfl)),
 f48:=VS.trans (congrArg some (by kernel_rfl)),
 f49:=⟨abE.name,by decide,aav.trans (congrArg some (by kernel_rfl))⟩,
 f50:=⟨abF.name,by decide,aaw.trans (congrArg some (by kernel_rfl))⟩,
 f57:=⟨abG.name,by decide,aax.trans (congrArg some (by kernel_rfl))⟩,
 t0:=UQ,
 a0:=V6,
 z0:=VT,
 v0:=U4,
 t3:=TQ,
 a3:=UN,
 z3:=Uu,
 v3:=T3,
 t4:=UR,
 a4:=V7,
 z4:=VU,
 v4:=U5,
 t5:=US,
 a5:=V8,
 z5:=VV,
 v5:=U6,
 t9:=TR,
 a9:=UO,
 z9:=Uv,
 v9:=T7,
 t22:=ZF,
 a22:=aac,
 z22:=Z8,
 v22:=ZK,
 a24:=aad,
 z24:=Z9,
 t25:=ZG,
 a25:=aae,
 z25:=aaa,
 v25:=ZL,
 t39:=Ui,
 a39:=Vt,
 z39:=Vb,
 v39:=Uy,
 t45:=Uj,
 a45:=Vu,
 z45:=Vc,
 v45:=Uz,
 t46:=Uk,
 a46:=Vv,
 z46:=Vd,
 v46:=UA,
 t50:=Ul,
 a50:=Vw,
 z50:=Ve,
 v50:=UB,
 t53:=Um,
 a53:=Vx,
 z53:=Vf,
 v53:=UC,
 t55:=UD,
 a55:=VW,
 z55:=Vy,
 v55:=UT,
 t66:=Un,
 a66:=Vz,
 z66:=Vg,
 v66:=UE,
 t70:=Uo,
 a70:=VA,
 z70:=Vh,
 v70:=UF,
 t76:=Up,
 a76:=VB,
 z76:=Vi,
 v76:=UG,
 t77:=Uq,
 a77:=VC,
 z77:=Vj,
 v77:=UH}
def uG:XU:=⟨λ|6=>94|15=>152|14=>151|28=>199|29=>200|20=>191|21=>192|22=>193|23=>194|24=>195|25=>196|26=>197|27=>198|46=>230|47=>231|48=>232|49=>233|50=>234|57=>263|n=>n,λ|22=>34|24=>22|25=>40|3=>3|39=>223|0=>0|53=>256|55=>44|4=>4|46=>250|45=>249|50=>186|5=>5|9=>9|66=>278|70=>282|76=>303|77=>304|n=>n,λ|n=>n⟩
theorem NH:Wi QH uG:={
 mixed:=by kernel_rfl,
 f6:=⟨acv.name,by decide,abl.trans (congrArg some (by kernel_rfl))⟩,
 f14:=⟨abH.name,by decide,aay.trans (congrArg some (by kernel_rfl))⟩,
 f15:=VO.trans (congrArg some (by kernel_rfl)),
 f20:=⟨abI.name,by decide,aaz.trans (congrArg some (by kernel_rfl))⟩,
 f21:=⟨abJ.name,by decide,aaA.trans (congrArg some (by kernel_rfl))⟩,
 f22:=⟨abK.name,by decide,aaB.trans (congrArg some (by kernel_rfl))⟩,
 f23:=⟨abL.name,by decide,aaC.trans (congrArg some (by kernel_rfl))⟩,
 f24:=⟨abM.name,by decide,aaD.trans (congrArg some (by kernel_rfl))⟩,
 f25:=⟨abN.name,by decide,aaE.trans (congrArg some (by kernel_rfl))⟩,
 f26:=⟨abO.name,by decide,aaF.trans (congrArg some (by kernel_rfl))⟩,
 f27:=⟨abP.name,by decide,aaG.trans (congrArg some (by kernel_rfl))⟩,
 f28:=VP.trans (congrArg some (by kernel_rfl)),
 f29:=VQ.trans (congrArg some (by kernel_rfl)),
 f46:=⟨abQ.name,by decide,aaH.trans (congrArg some (by kernel_rfl))⟩,
 f47:=VR.trans (congrArg some (by kernel_rfl)),
 f48:=VS.trans (congrArg some (by kernel_rfl)),
 f49:=⟨abR.name,by decide,aaI.trans (congrArg some (by kernel_rfl))⟩,
 f50:=⟨abS.name,by decide,aaJ.trans (congrArg some (by kernel_rfl))⟩,
 f57:=⟨abT.name,by decide,aaK.trans (congrArg some (by kernel_rfl))⟩,
 t0:=UQ,
 a0:=V6,
 z0:=VT,
 v0:=U4,
 t3:=TQ,
 a3:=UN,
 z3:=Uu,
 v3:=T3,
 t4:=UR,
 a4:=V7,
 z4:=VU,
 v4:=U5,
 t5:=US,
 a5:=V8,
 z5:=VV,
 v5:=U6,
 t9:=TR,
 a9:=UO,
 z9:=Uv,
 v9:=T7,
 t22:=ZM,
 a22:=aaL,
 z22:=aaf,
 v22:=ZV,
 a24:=aaM,
 z24:=aag,
 t25:=ZN,
 a25:=aaN,
 z25:=aah,
 v25:=ZW,
 t39:=Ui,
 a39:=Vt,
 z39:=Vb,
 v39:=Uy,
 t45:=Uj,
 a45:=Vu,
 z45:=Vc,
 v45:=Uz,
 t46:=Uk,
 a46:=Vv,
 z46:=Vd,
 v46:=UA,
 t50:=Ul,
 a50:=Vw,
 z50:=Ve,
 v50:=UB,
 t53:=Um,
 a53:=Vx,
 z53:=Vf,
 v53:=UC,
 t55:=UD,
 a55:=VW,
 z55:=Vy,
 v55:=UT,
 t66:=Un,
 a66:=Vz,
 z66:=Vg,
 v66:=UE,
 t70:=Uo,
 a70:=VA,
 z70:=Vh,
 v70:=UF,
 t76:=Up,
 a76:=VB,
 z76:=Vi,
 v76:=UG,
 t77:=Uq,
 a77:=VC,
 z77:=Vj,
 v77:=UH}
def yQ:XU:=⟨λ|6=>156|8=>152|9=>203|19=>199|20=>200|21=>235|22=>236|23=>237|24=>238|25=>239|26=>240|27=>241|28=>242|29=>243|36=>264|31=>231|32=>232|37=>265|38=>266|39=>267|41=>277|n=>n,λ|27=>30|29=>9|3=>3|32=>223|26=>30|0=>0|44=>256|46=>44|4=>4|36=>250|35=>249|41=>186|5=>5|9=>9|53=>278|57=>282|63=>303|64=>304|n=>n,λ|n=>n⟩
theorem sortStr:abo QH yQ:={
 mixed:=by kernel_rfl,
 f6:=⟨abU.name,by decide,aaO.trans (congrArg some (by kernel_rfl))⟩,
 f8:=VO.trans (congrArg some (by kernel_rfl)),
 f9:=⟨abV.name,by decide,aaP.trans (congrArg some (by kernel_rfl))⟩,
 f19:=VP.trans (congrArg some (by kernel_rfl)),
 f20:=VQ.trans (congrArg some (by kernel_rfl)),
 f21:=⟨abW.name,by decide,aaQ.trans (congrArg some (by kernel_rfl))⟩,
 f22:=⟨abX.name,by decide,aaR.trans (congrArg some (by kernel_rfl))⟩,
 f23:=⟨abY.name,by decide,aaS.trans (congrArg some (by kernel_rfl))⟩,
 f24:=⟨abZ.name,by decide,aaT.trans (congrArg some (by kernel_rfl))⟩,
 f25:=⟨ab0.name,by decide,aaU.trans (congrArg some (by kernel_rfl))⟩,
 f26:=⟨ab1.name,by decide,aaV.trans (congrArg some (by kernel_rfl))⟩,
 f27:=⟨ab2.name,by decide,aaW.trans (congrArg some (by kernel_rfl))⟩,
 f28:=⟨ab3.name,by decide,aaX.trans (congrArg some (by kernel_rfl))⟩,
 f29:=⟨ab4.name,by decide,aaY.trans (congrArg some (by kernel_rfl))⟩,
 f31:=VR.trans (congrArg some (by kernel_rfl)),
 f32:=VS.trans (congrArg some (by kernel_rfl)),
 f36:=⟨ab5.name,by decide,aaZ.trans (congrArg some (by kernel_rfl))⟩,
 f37:=⟨ab6.name,by decide,aa0.trans (congrArg some (by kernel_rfl))⟩,
 f38:=⟨ab7.name,by decide,aa1.trans (congrArg some (by kernel_rfl))⟩,
 f39:=⟨ab8.name,by decide,aa2.trans (congrArg some (by kernel_rfl))⟩,
 f41:=⟨ab9.name,by decide,aa3.trans (congrArg some (by kernel_rfl))⟩,
 t0:=UQ,
 a0:=V6,
 z0:=VT,
 v0:=U4,
 t3:=TQ,
 a3:=UN,
 z3:=Uu,
 v3:=T3,
 t4:=UR,
 a4:=V7,
 z4:=VU,
 v4:=U5,
 t5:=US,
 a5:=V8,
 z5:=VV,
 v5:=U6,
 t9:=TR,
 a9:=UO,
 z9:=Uv,
 v9:=T7,
 t26:=Xu,
 a26:=Yg,
 z26:=XZ,
 v26:=XB,
 t27:=Xu,
 a27:=Yg,
 z27:=XZ,
 v27:=XB,
 t29:=TR,
 a29:=UO,
 z29:=Uv,
 v29:=T7,
 t32:=Ui,
 a32:=Vt,
 z32:=Vb,
 v32:=Uy,
 t35:=Uj,
 a35:=Vu,
 z35:=Vc,
 v35:=Uz,
 t36:=Uk,
 a36:=Vv,
 z36:=Vd,
 v36:=UA,
 t41:=Ul,
 a41:=Vw,
 z41:=Ve,
 v41:=UB,
 t44:=Um,
 a44:=Vx,
 z44:=Vf,
 v44:=UC,
 t46:=UD,
 a46:=VW,
 z46:=Vy,
 v46:=UT,
 t53:=Un,
 a53:=Vz,
 z53:=Vg,
 v53:=UE,
 t57:=Uo,
 a57:=VA,
 z57:=Vh,
 v57:=UF,
 t63:=Up,
 a63:=VB,
 z63:=Vi,
 v63:=UG,
 t64:=Uq,
 a64:=VC,
 z64:=Vj,
 v64:=UH}
def An:XU:=⟨λ|5=>107|8=>152|7=>158|19=>199|20=>200|10=>204|11=>205|12=>206|13=>207|14=>208|15=>209|16=>159|17=>210|18=>211|30=>244|31=>231|32=>232|33=>245|34=>246|35=>212|40=>268|n=>n,λ|23=>61|25=>3|3=>3|32=>223|22=>61|0=>0|44=>256|46=>44|4=>4|36=>250|35=>249|41=>186|5=>5|9=>9|53=>278|57=>282|63=>303|64=>304|n=>n,λ|n=>n⟩
theorem sortInt:abp QH An:={
 mixed:=by kernel_rfl,
 f5:=⟨aca.name,by decide,aa4.trans (congrArg some (by kernel_rfl))⟩,
 f7:=⟨acb.name,by decide,aa5.trans (congrArg some (by kernel_rfl))⟩,
 f8:=VO.trans (congrArg some (by kernel_rfl)),
 f10:=⟨acd.name,by decide,aa6.trans (congrArg some (by kernel_rfl))⟩,
 f11:=⟨ace.name,by decide,aa7.trans (congrArg some (by kernel_rfl))⟩,
 f12:=⟨acf.name,by decide,aa8.trans (congrArg some (by kernel_rfl))⟩,
 f13:=⟨acg.name,by decide,aa9.trans (congrArg some (by kernel_rfl))⟩,
 f14:=⟨ach.name,by decide,aba.trans (congrArg some (by kernel_rfl))⟩,
 f15:=⟨aci.name,by decide,abb.trans (congrArg some (by kernel_rfl))⟩,
 f16:=⟨acj.name,by decide,abc.trans (congrArg some (by kernel_rfl))⟩,
 f17:=⟨ack.name,by decide,abd.trans (congrArg some (by kernel_rfl))⟩,
 f18:=⟨acm.name,by decide,abe.trans (congrArg some (by kernel_rfl))⟩,
 f19:=VP.trans (congrArg some (by kernel_rfl)),
 f20:=VQ.trans (congrArg some (by kernel_rfl)),
 f30:=⟨acn.name,by decide,abf.trans (congrArg some (by kernel_rfl))⟩,
 f31:=VR.trans (congrArg some (by kernel_rfl)),
 f32:=VS.trans (congrArg some (by kernel_rfl)),
 f33:=⟨aco.name,by decide,abg.trans (congrArg some (by kernel_rfl))⟩,
 f34:=⟨acp.name,by decide,abh.trans (congrArg some (by kernel_rfl))⟩,
 f35:=⟨acq.name,by decide,abi.trans (congrArg some (by kernel_rfl))⟩,
 f40:=⟨acr.name,by decide,abj.trans (congrArg some (by kernel_rfl))⟩,
 t0:=UQ,
 a0:=V6,
 z0:=VT,
 v0:=U4,
 t3:=TQ,
 a3:=UN,
 z3:=Uu,
 v3:=T3,
 t4:=UR,
 a4:=V7,
 z4:=VU,
 v4:=U5,
 t5:=US,
 a5:=V8,
 z5:=VV,
 v5:=U6,
 t9:=TR,
 a9:=UO,
 z9:=Uv,
 v9:=T7,
 t22:=Xv,
 a22:=Yh,
 z22:=X3,
 v22:=XC,
 t23:=Xv,
 a23:=Yh,
 z23:=X3,
 v23:=XC,
 t25:=TQ,
 a25:=UN,
 z25:=Uu,
 v25:=T3,
 t32:=Ui,
 a32:=Vt,
 z32:=Vb,
 v32:=Uy,
 t35:=Uj,
 a35:=Vu,
 z35:=Vc,
 v35:=Uz,
 t36:=Uk,
 a36:=Vv,
 z36:=Vd,
 v36:=UA,
 t41:=Ul,
 a41:=Vw,
 z41:=Ve,
 v41:=UB,
 t44:=Um,
 a44:=Vx,
 z44:=Vf,
 v44:=UC,
 t46:=UD,
 a46:=VW,
 z46:=Vy,
 v46:=UT,
 t53:=Un,
 a53:=Vz,
 z53:=Vg,
 v53:=UE,
 t57:=Uo,
 a57:=VA,
 z57:=Vh,
 v57:=UF,
 t63:=Up,
 a63:=VB,
 z63:=Vi,
 v63:=UG,
 t64:=Uq,
 a64:=VC,
 z64:=Vj,
 v64:=UH}
end
section
open Go.Shelf Go.Sort
theorem jl {α:Type} [Inhabited α]{enc:α->gp}{w:gb}{g m:Nat}{d:Array α}{os:Array Obj}:
  w.heap.size<=(sortWorld enc w g 0 m d os).heap.size/\∀b,b<w.heap.size->b≠g->(sortWorld enc w g 0 m d os).heap[b]?=w.heap[b]?:=by
 refine⟨by simp[sortWorld,UI,Ur,Vk,UU],λb a c=>?_⟩;simp only[sortWorld,UI,Ur,Vk,UU];rw[TS (by simpa using a),TX,if_neg (Ne.symm c)]
theorem ov {α:Type} [Inhabited α]{enc:α->gp}{w:gb}{g n:Nat}{cur:Array gp}{e:ic}{d:Array α}{os:Array Obj}(b:w.heap[g]?=some (.cells cur e (0,0)))(hd:d.size<=cur.size):
  (sortWorld enc w g 0 n d os).heap[g]?=some (.cells (Tu enc 0 d cur) e (0,0))/\(Tu enc 0 d cur).size=cur.size/\(Tu enc 0 d cur).toList.take d.size=d.toList.map enc:=by
 have a:g<w.heap.size:=aI b;refine⟨?_,by simp[Tu],?_⟩
 ·simp only[sortWorld,UI,Ur,Vk,UU];rw[TS (by simpa using a),TX,if_pos rfl,b];rfl
 ·apply Sy;intro k;rw[RF];by_cases hk:k<d.size
  ·rw[if_pos hk];simp[Tu];rw[Rn (by omega)];simp[hk]
  ·rw[if_neg hk,Th (by simp;omega)]
theorem Av {H H':aa}(e:Mod (λ_=>False) H H'):∃os:Array Obj,H'=H++os:=by
 refine⟨H'.extract H.size H'.size,?_⟩;apply Array.ext_getElem?;intro i;rw[Array.getElem?_append];split
 ·rename_i h;exact e.same i h id
 ·rename_i h;rw[Array.getElem?_extract];have hs:=e.size;by_cases a:i<H'.size
  ·rw[if_pos (by omega)];congr 1;omega
  ·rw[if_neg (by omega),VM (by omega)]
theorem yA {P:hQ}{g:Nat}{n:Array gp}{α:Type} [Inhabited α]{enc:α->gp}{cf:α->α->Int}{a size:Nat}{w:gb}
  (h:∀H:aa,w.heap.size<=H.size->(∀b,b<w.heap.size->b≠a->H[b]?=w.heap[b]?)->∀x y,Spec P g (#[enc x,enc y]++n) H λv H'=>v=.int .i64 (cf x y)/\Mod (λ_=>False) H H'):
  CmpLays1 P g n enc cf a 0 size w:=by
 intro m os f _ x y;obtain⟨h1,o⟩:=jl (enc:=enc) (w:=w) (g:=a) (m:=m) (d:=f) (os:=os);refine(h _ h1 o x y (sortWorld enc w a 0 m f os) rfl).mono λe w' ⟨v,he,⟨p,hm⟩,c⟩=>?_;subst p;refine⟨he,w'.drawn - (sortWorld enc w a 0 m f os).drawn,?_⟩;obtain⟨i,j⟩:=Av hm;refine⟨i,?_⟩;have hd:=c.drawn;have q:=c.rest;generalize sortWorld enc w a 0 m f os=W at*;rw[q,j];unfold UI World.drewN;have:W.drawn+(w'.drawn - W.drawn)=w'.drawn:=by omega
 rw[this]
theorem vt {P:hQ}{ρ:Ren}(L:Wi P ρ){α:Type} [Inhabited α]{E:eZ α}{e:α->gp}(N:∀x,E.enc x=[e x])(hs:E.size=1){cf:α->α->Int}(hO:SWO (ltOf cf))
  (U:∀x y,(ltOf cf) x y=false->(ltOf cf) y x=false->x=y) {g:Nat} {C:Array gp} (V:∀args w,(callFunc g args).run P w=.ok (.enter g args) w) {et:ic} {H:aa} {s:Sl} {l:List α} (h:aF E et H s l) (hl:l.length<4611686018427387904)
  (z:∀H',Mod (ai s) H H'->∀x y,Spec P g (#[e x,e y]++C) H' λv G=>v=.int .i64 (cf x y)/\Mod (λ_=>False) H' G)
  {K:Unit->aa->Prop} (O:∀H',aF E et H' s (l.mergeSort λx y=>!(ltOf cf) y x)->Mod (ai s) H H'->K () H'):ak (aW []) P (ρ.f 6) #[s.v,.func (.func g) #[] C] H K:=by
 intro w hw;subst hw;have a:∀l:List α,E.all l=l.map e:=by
  intro l
  induction l with
  |nil=>rfl
  |cons x l W=>
    have:E.all (x::l)=E.enc x++E.all l:=rfl;rw[this,N,W];rfl
 rcases id h.2 with ⟨u,e2⟩|⟨b,cap,cur,u,X,D,Y,Z,Q,h7⟩
 ·have i:=h.n (by omega);have I:l=[]:=Ra (by omega);have F:=UP (P:=P) (ρ:=ρ) {L with} none 0 (.func (.func g) #[] C) w;rw[u];refine F.mono λe w' ⟨he,f⟩=>?_;subst f;subst I;exact⟨_,he,⟨(),rfl,O _ (by simpa using h) (.refl _ _)⟩,.refl _⟩
 ·have i:=h.n (by omega);have A:∀k,ai s k↔k=b:=by
   intro k;have R:s.a=some ⟨b,0,none⟩:=by cases s;simp only[Sl.v,Q2] at u;exact u.1
   constructor
   ·rintro⟨ad,h1,h2⟩;rw[R] at h1;cases h1;exact h2.symm
   ·rintro rfl;exact⟨_,R,rfl⟩
  have hH:XD e w b 0 l.toArray:=by
   intro j hj;have B:j<l.length:=by simpa using hj
   have S:(E.all l)[j]?=some (e l[j]):=by rw[a];simp[B]
   rw[<-h7,RF,if_pos (by rw[hs];omega)] at S;refine⟨?_,?_⟩
   ·rw[R3];have:=cC (o:=j) D (by simpa using S);simp[B];exact this
   ·rw[R3];exact dJ D
  have J:OneCell e:=λx=>by
   have:=E.one x (e x) (by rw[N];simp);exact this
  have F:=YT L e J cf hO g C b 0 cap l.toArray w V (yA λH' c p x y=>z H' ⟨c,λk hk i=>p k hk (λq=>i ((A k).2 q))⟩ x y) hH (aI D) (by simpa using hl) U;rw[u,i];have hlen:(l.toArray).size=l.length:=by simp
  rw[hlen] at F;refine F.mono λev w' ⟨he,n,os,f⟩=>?_;have hm:=RG l (λx y=>!(ltOf cf) y x);have c:(l.mergeSort λx y=>!(ltOf cf) y x).length=l.length:=hm.length_eq;have M:l.toArray.toList=l:=by simp
  rw[M] at f;obtain⟨q1,q3,T⟩:=ov (enc:=e) (n:=n) (d:=(l.mergeSort λx y=>!(ltOf cf) y x).toArray) (os:=os) D (by rw[Q,hs];simp[c];omega);obtain⟨w1,w2⟩:=jl (enc:=e) (w:=w) (g:=b) (m:=n) (d:=(l.mergeSort λx y=>!(ltOf cf) y x).toArray) (os:=os);subst f;refine⟨_,he,⟨(),rfl,O _ ⟨?_,.inr ⟨b,cap,_,u,X,q1,Y,Z,by rw[q3];exact Q,?_⟩⟩ ⟨w1,λk hk i=>w2 k hk (λq=>i ((A k).2 q))⟩⟩,⟨rfl,SP _ _⟩⟩
  ·rw[a,hs];simp[c,i]
  ·rw[a,hs,Rz,i];have:(l.mergeSort λx y=>!(ltOf cf) y x).toArray.size=l.length:=by simp[c]
   rw[this] at T;rw[T]
end
section
open Go.Shelf Go.Sort
theorem ve {P:hQ}{ρ:Ren}(L:Wi P ρ){α:Type} [Inhabited α]{E:eZ α}{e:α->gp}(W:∀x,E.enc x=[e x])(hs:E.size=1){cf:α->α->Int}(hO:SWO (ltOf cf))
  {g:Nat} {G:Array gp} (eg:∀args w,(callFunc g args).run P w=.ok (.enter g args) w) {et:ic} {H:aa} {s:Sl} {l:List α} (h:aF E et H s l) (hl:l.length<4611686018427387904)
  (D:∀H',Mod (ai s) H H'->∀x y,Spec P g (#[e x,e y]++G) H' λv M=>v=.int .i64 (cf x y)/\Mod (λ_=>False) H' M)
  {K:Unit->aa->Prop} (X:∀N H',N.Perm l->N.Pairwise (λx y=>ltOf cf y x=false)->aF E et H' s N->Mod (ai s) H H'->K () H'):ak (aW []) P (ρ.f 6) #[s.v,.func (.func g) #[] G] H K:=by
 intro w hw;subst hw;have c:∀l:List α,E.all l=l.map e:=by
  intro l
  induction l with
  |nil=>rfl
  |cons x l ih=>
    have:E.all (x::l)=E.enc x++E.all l:=rfl;rw[this,W,ih];rfl
 rcases id h.2 with ⟨C,e2⟩|⟨b,cap,cur,C,hb,I,h4,h5,Y,h7⟩
 ·have z:=h.n (by omega);have O:l=[]:=Ra (by omega);have J:=UP (P:=P) (ρ:=ρ) {L with} none 0 (.func (.func g) #[] G) w;rw[C];refine J.mono λe w' ⟨he,A⟩=>?_;subst A;subst O;exact⟨_,he,⟨(),rfl,X [] _ (.refl _) UY h (.refl _ _)⟩,.refl _⟩
 ·have z:=h.n (by omega);have F:∀k,ai s k↔k=b:=by
   intro k;have Z:s.a=some ⟨b,0,none⟩:=by cases s;simp only[Sl.v,Q2] at C;exact C.1
   constructor
   ·rintro⟨ad,h1,h2⟩;rw[Z] at h1;cases h1;exact h2.symm
   ·rintro rfl;exact⟨_,Z,rfl⟩
  have hH:XD e w b 0 l.toArray:=by
   intro j Q;have p:j<l.length:=by simpa using Q
   have hv:(E.all l)[j]?=some (e l[j]):=by rw[c];simp[p]
   rw[<-h7,RF,if_pos (by rw[hs];omega)] at hv;refine⟨?_,?_⟩
   ·rw[R3];have:=cC (o:=j) I (by simpa using hv);simp[p];exact this
   ·rw[R3];exact dJ I
  have R:OneCell e:=λx=>by
   have:=E.one x (e x) (by rw[W];simp);exact this
  have J:=Zv L e R cf hO g G b 0 cap l.toArray w eg (yA λH' u B x y=>D H' ⟨u,λk hk z=>B k hk (λq=>z ((F k).2 q))⟩ x y) hH (aI I) (by simpa using hl);rw[C,z];have hlen:(l.toArray).size=l.length:=by simp
  rw[hlen] at J;refine J.mono λev w' ⟨he,a,n,os,hP,S,A⟩=>?_;obtain⟨u,_,f⟩:=hP;have ex:a.extract 0 l.length=a:=by
   have:a.size=l.length:=by rw[u];simp
   rw[<-this];exact YL
  have ey:l.toArray.extract 0 l.length=l.toArray:=by
   have:=YL (xs:=l.toArray)
   rwa [hlen] at this
  rw[ex,ey] at f;have hd:a.size=l.length:=by rw[u];simp
  have T:a.toList.Pairwise (λx y=>ltOf cf y x=false):=by
   rw[SJ];intro i j hi Q U;have V:i<a.size:=by simpa using hi
   have p:j<a.size:=by simpa using Q
   have:=S i j (Q5 _) U (by omega);rw[getElem!_pos a j p,getElem!_pos a i V] at this;simpa using this
  obtain⟨q1,q3,q4⟩:=ov (enc:=e) (n:=n) (d:=a) (os:=os) I (by rw[Y,hs,hd];omega);obtain⟨w1,w2⟩:=jl (enc:=e) (w:=w) (g:=b) (m:=n) (d:=a) (os:=os);subst A;refine⟨_,he,⟨(),rfl,X a.toList _ (by simpa using f) T ⟨?_,.inr ⟨b,cap,_,C,hb,q1,h4,h5,by rw[q3];exact Y,?_⟩⟩ ⟨w1,λk hk z=>w2 k hk (λq=>z ((F k).2 q))⟩⟩,⟨rfl,SP _ _⟩⟩
  ·rw[c,hs];simp[hd,z]
  ·rw[c,hs,Rz,z];rw[hd] at q4;exact q4
end
section
open Go.MapKept
def xm (P:hQ)(kt:ic)(v:gp):Prop:=∃l,Go.keyOf P kt v=some l
structure jq (P:hQ)(kt:ic)(H:aa)(r:Nat)(es:Array nW)(clk:Nat):Prop where
 obj:H[r]?=some (.map es clk)
 stamped:Stamped es clk
 keys:∀x∈es.toList,xm P kt x.key
theorem jq.lt {P:hQ}{kt:ic}{H:aa}{r:Nat}{es:Array nW}{clk:Nat}(h:jq P kt H r es clk):r<H.size:=(QR.1 h.obj).1
theorem jq.mod {P:hQ}{kt:ic}{F:Nat->Prop}{H H':aa}{r:Nat}{es:Array nW}{clk:Nat}(h:jq P kt H r es clk)(hm:Mod F H H')(a:¬F r):jq P kt H' r es clk:=
 ⟨(hm.same r h.lt a).trans h.obj,h.stamped,h.keys⟩
theorem jq.find {P:hQ}{kt:ic}{H:aa}{r:Nat}{es:Array nW}{clk:Nat}{k:gp}(hm:jq P kt H r es clk)(m:VH P kt)(hk:xm P kt k):
  ((∀w:gb,(WN kt k es.toList).run P w=.ok none w)/\∀e∈es.toList,e.key≠k)\/∃j e,(∀w:gb,(WN kt k es.toList).run P w=.ok (some (j,e.val)) w)/\es.toList[j]?=some e/\e.key=k:=by
 obtain⟨l,hl⟩:=hk;by_cases hex:∃e∈es.toList,e.key=k
 ·obtain⟨e,he,a⟩:=hex;obtain⟨j,c⟩:=QU.1 he;refine .inr ⟨j,e,λw=>?_,c,a⟩;rcases m.find w hl es.toList hm.keys with ⟨_,b⟩|⟨f,n,h1,b,g⟩
  ·exact absurd a (b e he)
  ·have i:=(QJ.1 c).1;have o:(es.toList.map (·.key))[j]?=(es.toList.map (·.key))[f]?:=by
    rw[QV,QV,c,b];simp[a,g]
   have:j=f:=(UX (by simpa using i) hm.stamped.2.2).1 o;subst this;rw[c] at b;cases b;exact h1
 ·refine .inl ⟨λw=>?_,λe he h=>hex ⟨e,he,h⟩⟩;rcases m.find w hl es.toList hm.keys with ⟨h1,_⟩|⟨f,n,h1,b,g⟩
  ·exact h1
  ·exact absurd ⟨n,QL b,g⟩ hex
section
variable {P:hQ}{t kt et:ic}{H:aa}{r:Nat}{es:Array nW}{clk:Nat}{k:gp}
theorem zf {z:gp}{inf:pa}(p:P.underlying t=some (.map kt et))(q:VH P kt)(hi:P.info? et=some inf)(u:inf.zero=some z)(hm:jq P kt H r es clk)(hk:xm P kt k){c:fg}{K:c.α->Prop}
  (a:∀v,fw es k v->∃x:c.α,c.enc x=.tuple #[v,.bool true]/\K x) (b:(∀v,¬fw es k v)->∃x:c.α,c.enc x=.tuple #[z,.bool false]/\K x):
  Fs c P (Sd t (.map (some r)) k true) H K:=by
 have f:∀(e:Bool) (w:gb),(WC e 10000 kt k).run P w=.ok () w:=λe w=>q.check w e hk.choose_spec;rcases hm.find q hk with ⟨h1,g⟩|⟨j,e,h1,g,y⟩
 ·obtain⟨x,h,i⟩:=b (λv ⟨e,he,m,_⟩=>g e he m);refine⟨x,λw hw=>?_,i⟩;subst hw;have n:=h1 w;have o:=hm.obj;rw[h];simp[Sd,run_underlying p,getObj,Sn,o,f,n,zeroValue,typeInfo,hi,u]
 ·obtain⟨x,h,i⟩:=a e.val ⟨e,QL g,y,rfl⟩;refine⟨x,λw hw=>?_,i⟩;subst hw;have n:=h1 w;have o:=hm.obj;rw[h];simp[Sd,run_underlying p,getObj,Sn,o,f,n]
theorem jq.set {H:aa}{es c:Array nW}{clk a:Nat}(h:jq P kt H r es clk)(hs:Stamped c a)(hk:∀x∈c.toList,xm P kt x.key):
  jq P kt (H.setIfInBounds r (.map c a)) r c a/\Mod (λb=>b=r) H (H.setIfInBounds r (.map c a)):=
 ⟨⟨by simp[h.lt],hs,hk⟩,⟨by simp,λb _ f=>Sa (λe=>f e.symm)⟩⟩
theorem yP {v:gp}{K:aa->Prop}(i:P.underlying t=some (.map kt et))(g:VH P kt)(hm:jq P kt H r es clk)(hk:xm P kt k)(c:∀u,¬fw es k u)
  (m:∀H',jq P kt H' r (es.push {key:=k,val:=v,born:=clk}) (clk+1)->Mod (λb=>b=r) H H'->H'.size=H.size->K H'):jo P (SZ t (.map (some r)) k v) H K:=by
 intro w hw;subst hw;have h:=hm.obj;rcases hm.find g hk with ⟨h1,f⟩|⟨j,e,h1,f,n⟩
 ·obtain⟨m1,m2⟩:=hm.set (stamped_push (val:=v) hm.stamped f) (by
   intro x a;simp only[XH,QQ,Q1] at a;rcases a with a|rfl
   ·exact hm.keys x a
   ·exact hk)
  refine⟨(),{w with heap:=w.heap.setIfInBounds r (.map (es.push {key:=k,val:=v,born:=clk}) (clk+1))},?_,m _ m1 m2 (by simp),(.of_le rfl (QN _))⟩;simp[SZ,run_underlying i,SG h,g.check _ _ hk.choose_spec,h1 _,Ty _ h,SR]
 ·exact absurd ⟨e,QL f,n,rfl⟩ (c e.val)
theorem yB {ty:ic}{K:gp->aa->Prop}(J:P.underlying t=some (.map kt et))(L:VH P kt)(hm:jq P kt H r es clk)(hk:xm P kt k){t2:ic}
  (M:∀g H',jq P kt H' r g clk->(∀q v,fw g q v↔fw es q v/\q≠k)->(∀u,fw es k u->g.size+1=es.size)->Mod (λb=>b=r) H H'->H'.size=H.size->K (.tuple #[]) H'):bf gR P (Sj #[t,t2] ty #[.map (some r),k]) H K:=by
 intro w hw;subst hw;have C:=hm.obj;have y:∀(e:Bool) (w:gb),(WC e 10000 kt k).run P w=.ok () w:=λe w=>L.check w e hk.choose_spec;rcases hm.find L hk with ⟨h1,p⟩|⟨j,e,h1,p,N⟩
 ·obtain⟨m1,m2⟩:=hm.set hm.stamped hm.keys;refine⟨.tuple #[],{w with heap:=w.heap.setIfInBounds r (.map es clk)},?_,⟨.tuple #[],rfl,M _ _ m1 (λq v=>⟨λ⟨e,he,f,z⟩=>⟨⟨e,he,f,z⟩,by rw[<-f];exact p e he⟩,λh=>h.1⟩) (λu ⟨e,he,f,_⟩=>absurd f (p e he)) m2 (by simp)⟩,(.of_le rfl (QN _))⟩;simp[Sj,run_underlying J,SG C,y,h1 _,Ty _ C,SR]
 ·have O:j<es.toList.length:=(QJ.1 p).1;have A:j<es.size:=by simpa using O
  have m:(es.eraseIdxIfInBounds j).toList=es.toList.eraseIdx j:=by
   unfold U8;rw[dif_pos A];simp
  have B:∀x∈(es.eraseIdxIfInBounds j).toList,x∈es.toList:=by
   intro x c;rw[m] at c;exact Se c
  obtain⟨m1,m2⟩:=hm.set (stamped_erase hm.stamped j) (λx c=>hm.keys x (B x c));refine⟨.tuple #[],{w with heap:=w.heap.setIfInBounds r (.map (es.eraseIdxIfInBounds j) clk)},?_,⟨.tuple #[],rfl,M _ _ m1 (λq v=>?_) (λ_ _=>by unfold U8;rw[dif_pos A];simp;omega) m2 (by simp)⟩,(.of_le rfl (QN _))⟩
  ·simp[Sj,run_underlying J,SG C,y,h1 _,Ty _ C,SR]
  ·have D:=hm.stamped.2.2;have n:∀i x,es.toList[i]?=some x->x.key=k->i=j:=by
    intro i x c F;have hi:i<es.toList.length:=(QJ.1 c).1;have Q:(es.toList.map (·.key))[i]?=(es.toList.map (·.key))[j]?:=by
     rw[QV,QV,c,p];simp[F,N]
    exact(UX (by simpa using hi) D).1 Q
   constructor
   ·rintro⟨x,c,f,z⟩;rw[m,Tz] at c;obtain⟨i,o,a⟩:=c;refine⟨⟨x,QL a,f,z⟩,λG=>o (n i x a (by rw[f];exact G))⟩
   ·rintro⟨⟨x,c,f,z⟩,I⟩;refine⟨x,?_,f,z⟩;rw[m,Tz];obtain⟨i,a⟩:=QU.1 c;refine⟨i,λo=>?_,a⟩;subst o;rw[p] at a;cases a;exact I (by rw[<-f];exact N)
theorem pk {K:Option hY->aa->Prop}(a:P.underlying t=some (.map kt et))(hm:jq P kt H r es clk)
  (b:∀H',H'[H.size]?=some (.mapIter (some r) clk #[] clk)->Ext H H'->K (some ⟨H.size,0,none⟩) H'):bf aB P (SS t (.map (some r))) H K:=by
 intro w hw;subst hw;have c:=hm.obj;refine⟨.pointer (some ⟨w.heap.size,0,none⟩),{w with heap:=w.heap.push (.mapIter (some r) clk #[] clk)},?_,⟨some ⟨w.heap.size,0,none⟩,rfl,b _ (by simp) (Mod.push _ _ _)⟩,(.of_le rfl (QN _))⟩;simp[SS,run_underlying a,SG c,SR,newObj,Sn]
theorem Bo {it:Nat}{seen:Array Nat}{e:nW}{K:gp×gp->aa->Prop}(hm:jq P kt H r es clk)(c:H[it]?=some (.mapIter (some r) clk (seen.push e.born) clk))(he:e∈es.toList)
  (g:K (e.key,e.val) H):bf pS P (Sr (.pointer (some ⟨it,0,none⟩))) H K:=by
 intro w hw;subst hw;have i:=hm.obj;have a:es.find? (λx=>x.born==e.born)=some e:=by
  rw[<-YG];have key:∀l:List nW,(l.map (·.born)).Nodup->e∈l->l.find? (λx=>x.born==e.born)=some e:=by
   intro l
   induction l with
   |nil=>intro _ h;cases h
   |cons x l j=>
     intro b he;rw[Q7,To] at b;rw[Wt];rcases QX.1 he with q|q
     ·subst q;simp
     ·have f:x.born≠e.born:=λh=>b.1 (by rw[h];exact TN q);have:(x.born==e.born)=false:=by simpa using f
      rw[this];exact j b.2 q
  exact key _ hm.stamped.2.1 he
 refine⟨.tuple #[e.key,e.val],w,?_,⟨(e.key,e.val),rfl,g⟩,.refl w⟩;simp[Sr,getObj,Sn,c,i,a]
theorem zq (es:Array nW)(seen:Array Nat)(clk:Nat)(c:∀x∈es.toList,x.born<clk)(b:Array (Option nW))(g:((if (Ry (λx:nW=>decide (x.born<clk)) (Ry (λe:nW=>!seen.contains e.born) es)).isEmpty=true then #[none] else #[])++
   YH some (Ry (λx:nW=>decide (x.born<clk)) (Ry (λe:nW=>!seen.contains e.born) es)++Ry (λx:nW=>decide (x.born>=clk)) (Ry (λe:nW=>!seen.contains e.born) es)))=b):
  0<b.size/\∀(i:Nat) (x:Option nW),b[i]?=some x->(x=none/\∀e∈es.toList,seen.contains e.born=true)\/∃e,x=some e/\e∈es.toList/\seen.contains e.born=false:=by
 subst g;constructor
 ·split
  ·simp;omega
  ·rename_i h;have:0<(Ry (λx:nW=>decide (x.born<clk)) (Ry (λe:nW=>!seen.contains e.born) es)).size:=by
    rw[W4] at h;omega
   simp only[UW,Zx];omega
 ·intro i x j;have a:=Ym j;rw[WO] at a;rcases a with a|a
  ·split at a
   ·rename_i h;left;refine⟨by simpa using a,λe he=>?_⟩;cases hs:seen.contains e.born with
    |true=>rfl
    |false=>
      have f:e∈Ry (λx:nW=>decide (x.born<clk)) (Ry (λe:nW=>!seen.contains e.born) es):=by
       rw[Tt,Tt];exact⟨⟨by simpa using he,by rw[hs];rfl⟩,by simpa using c e he⟩
      rw[YX] at h;rw[h] at f;simp at f
   ·simp at a
  ·right;rw[ZT] at a;obtain⟨e,he,rfl⟩:=a;rw[WO] at he;have m:e∈Ry (λe:nW=>!seen.contains e.born) es:=by
    rcases he with he|he
    ·exact(Tt.1 he).1
    ·exact(Tt.1 he).1
   obtain⟨n,o⟩:=Tt.1 m;exact⟨e,rfl,by simpa using n,by simpa using o⟩
theorem Er {it:Nat}{seen:Array Nat}{ty:ic}{K:Bool×List gp->aa->Prop}(hm:jq P kt H r es clk)(hit:H[it]?=some (.mapIter (some r) clk seen clk))
  (hstep:∀e∈es.toList,seen.contains e.born=false->∀H',H'[it]?=some (.mapIter (some r) clk (seen.push e.born) clk)->Mod (λb=>b=it) H H'->H'.size=H.size->K (true,[e.key,e.val]) H')
  (hover:(∀e∈es.toList,seen.contains e.born=true)->K (false,[]) H):bf gM P (SO (.pointer (some ⟨it,0,none⟩)) false ty) H K:=by
 refine sv ?_;have hlt:it<H.size:=(QR.1 hit).1;have hb:=hm.obj;unfold SO;refine im _ _ ⟨_,hit,rfl,?_⟩;refine im _ _ ⟨_,hb,rfl,?_⟩;have hlast:(!seen.isEmpty&&!es.isEmpty&&es.all (λx=>decide (x.born>=clk)))=false:=by
  cases hes:es.toList with
  | nil => have : es.isEmpty = true := by simp [ZU, ← Td, hes]
           rw[this];simp
  |cons x l=>
    have hx:x∈es.toList:=by rw[hes];exact Q9
    have h1:=hm.stamped.1 x hx;have:es.all (λx=>decide (x.born>=clk))=false:=by
     rw[<-XT,XI];exact⟨x,hx,by simp;omega⟩
    rw[this];simp
 simp only[hlast,wpS];rw[if_neg (by simp)];generalize hc:((if (Ry (λx:nW=>decide (x.born<clk)) (Ry (λe:nW=>!seen.contains e.born) es)).isEmpty=true then #[none] else #[])++
   YH some (Ry (λx:nW=>decide (x.born<clk)) (Ry (λe:nW=>!seen.contains e.born) es)++Ry (λx:nW=>decide (x.born>=clk)) (Ry (λe:nW=>!seen.contains e.born) es)))=cand
 obtain⟨hsz,hx⟩:=zq es seen clk hm.stamped.1 cand hc;have fin:∀i,i<cand.size->wpS P (match cand[i]? with
   |some (some e)=>do
     setObj it (Zy (some r) clk (seen.push e.born) clk)
     pure (Xn #[WH true,e.key,e.val])
   |some none=>pure (Xn #[WH false])
   |none=>stuck "Next: no such candidate") H (λv H'=>∃x:gM.α,v=gM.enc x/\K x H'):=by
  intro i hi;have hci:cand[i]?=some cand[i]:=Rn hi;rcases hx i _ hci with ⟨h1,h2⟩|⟨e,h1,h2,h3⟩
  ·rw[hci,h1];exact⟨(false,[]),rfl,hover h2⟩
  ·rw[hci,h1];refine im _ _ ⟨⟨_,hit,rfl⟩,⟨(true,[e.key,e.val]),rfl,hstep e h2 h3 _ (by simp[hlt]) ⟨by simp,λb _ hn=>Sa (λe=>hn e.symm)⟩ (by simp)⟩⟩
 refine im _ _ ?_;unfold choose;simp only[wpS];split
 ·exact fin 0 hsz
 ·exact λt=>fin _ (U1 _ hsz)
end
theorem pq {P:hQ}{kt:ic}{H:aa}{r:Nat}{es:Array nW}{clk it:Nat}{α:Type}{x0:α}{ty:ic}
  {B:(α->aa->Prop)->α->(gp×gp)->aa->Prop} {E:α->aa->Prop} (I:List nW->α->aa->Prop)
  (hm:jq P kt H r es clk) (L:H[it]?=some (.mapIter (some r) clk #[] clk)) (X:I [] x0 H)
  (M:∀l x A f,I l x A->Mod (λb=>b=it) A f->f.size=A.size->I l x f)
  (hs:∀l e x A next,I l x A->e∈es.toList->e∉l->(∀y∈l,y∈es.toList)->l.Nodup->A[r]?=some (.map es clk)->(∃o,A[it]?=some o)->
   (∀x' f,I (l++[e]) x' f->f[r]?=A[r]?->f[it]?=A[it]?->next x' f)->B next x (e.key,e.val) A)
  (Y:∀l x A,I l x A->l.Perm es.toList->A[r]?=some (.map es clk)->E x A):
  ay α x0 H (λnext x Z=>bf gM P (SO (.pointer (some ⟨it,0,none⟩)) false ty) Z λ(nx:Bool×List gp) U=>
   br nx.1 (bf pS P (Sr (.pointer (some ⟨it,0,none⟩))) U λ(en:gp×gp) H4=>B next x en H4) (E x U)):=by
 have i:=hm.stamped;have N:=oy i;refine⟨List nW,λl x A=>I l x A/\A[it]?=some (.mapIter (some r) clk (l.map (·.born)).toArray clk)/\A[r]?=some (.map es clk)/\l.Nodup/\(∀y∈l,y∈es.toList),λl=>es.size - l.length,⟨[],X,by simpa using L,hm.obj,Zz,by simp⟩,?_⟩;rintro l x A ⟨V,hi,p,hl,c⟩;have u:jq P kt A r es clk:=⟨p,i,hm.keys⟩;have C:r≠it:=by intro e;rw[<-e,p] at hi;cases hi
 refine Er u hi ?_ ?_
 ·intro e he D f j g O;have m:e∉l:=λh=>by
   have:(l.map (·.born)).toArray.contains e.born=true:=by simp;exact⟨e,h,rfl⟩
   rw[this] at D;cases D
  have F:f[r]?=some (.map es clk):=(g.same r (aI p) C).trans p;refine Bo (u.mod g C) j he ?_;refine hs l e x f _ (M l x A f V g O) he m c hl F ⟨_,j⟩ λx' af G h1 h2=>⟨l++[e],⟨G,?_,by rw[h1];exact F,?_,?_⟩,?_⟩
  ·rw[h2,j];simp
  ·rw[Sz];exact⟨hl,by simp,by intro a Q b J;simp at J;subst J;intro R;subst R;exact m Q⟩
  ·intro y n;rcases QQ.1 n with q|q
   ·exact c y q
   ·simp at q;subst q;exact he
  ·have S:(l++[e]).length<=es.toList.length:=by
    refine TA ?_ ?_
    ·rw[Sz];exact⟨hl,by simp,by intro a Q b J;simp at J;subst J;intro R;subst R;exact m Q⟩
    ·intro y n;rcases QQ.1 n with q|q
     ·exact c y q
     ·simp at q;subst q;exact he
   simp at S ⊢;omega
 ·intro K;refine Y l x A V ?_ p;rw[SU hl N];intro y;refine⟨c y,λn=>?_⟩;have h1:=K y n;simp at h1;obtain⟨z,W,T⟩:=h1;have:=qi i (c z W) n T;rw[<-this];exact W
end
structure Fr where
 name:ByteArray
 page:Nat
 kind:UInt8
 b:List UInt8
 dirty:Bool
 pins:List Int
 left:Int
def Pu:Fr:=⟨Tn,0,0,[],false,[],0⟩
def Fr.eO (f:Fr):List UInt8:=cT f.kind f.b
structure Pl where
 d:Dk
 most:Nat
 fs:List Fr
 next:Int
 tick:Int
 peak:Nat
 wrong:Int
def Pl.frame (p:Pl)(i:Nat):Fr:=p.fs.getD i Pu
def Pl.find (p:Pl)(n:ByteArray)(g:Int):Option Nat:=p.fs.findIdx? λf=>f.name.toList==n.toList&&decide ((f.page:Int)=g)
def Pl.held (p:Pl)(h:Int):Option Nat:=p.fs.findIdx? λf=>f.pins.contains h
def bad (e:Int):Bool:=e==4||e==5||e==20
def Pl.met (p:Pl)(e:Int):Pl:=if bad e then {p with wrong:=e} else p
def Pl.out (r:Pl×Int):Pl×Int:=(r.1.met r.2,r.2)
def Pl.bJ (p:Pl)(d:Dk):Pl:={p with d:=d}
def Pl.drop (p:Pl)(i:Nat):Pl:={p with fs:=p.fs.eraseIdx i}
def Pl.dz (p:Pl)(i:Nat)(u:Fr->Fr):Pl:={p with fs:=p.fs.modify i u}
def Fr.clean (f:Fr):Fr:={f with dirty:=false}
def Pl.put (p:Pl)(i:Nat):Pl×Int:=
 if (p.d.write (p.frame i).name (p.frame i).page (p.frame i).eO).2=0 then ((p.bJ (p.d.write (p.frame i).name (p.frame i).page (p.frame i).eO).1).dz i Fr.clean,0)
 else (p.bJ (p.d.write (p.frame i).name (p.frame i).page (p.frame i).eO).1,(p.d.write (p.frame i).name (p.frame i).page (p.frame i).eO).2)
def nq (f:Fr)(b:Option (Nat×Int)):Bool:=match b with|none=>true|some x=>decide (f.left<x.2)
def gL:List Fr->Nat->Option (Nat×Int)->Option (Nat×Int)
 |[],_,b=>b
 |f::l,i,b=>gL l (i+1) (if f.pins.isEmpty&&nq f b then some (i,f.left) else b)
def Pl.ky (p:Pl):Option Nat:=(gL p.fs 0 none).map (·.1)
def Pl.room (p:Pl):Pl×Int:=
 if p.fs.length<p.most then (p,0) else
 match p.ky with
 |none=>(p,31)
 |some i=>if (p.frame i).dirty then (if (p.put i).2=0 then ((p.put i).1.drop i,0) else p.put i) else (p.drop i,0)
def Fr.bF (h:Int)(f:Fr):Fr:={f with pins:=f.pins++[h]}
def Pl.iG (p:Pl)(i:Nat):Pl:={p with fs:=p.fs.modify i (Fr.bF p.next),next:=fT (p.next+1)}
def Pl.add (p:Pl)(f:Fr):Pl:={p with fs:=p.fs++[f],peak:=max p.peak (p.fs.length+1)}
def Pl.take (p:Pl)(f:Fr):Pl:=(p.add f).iG p.fs.length
def Pl.load (p:Pl)(n:ByteArray)(g:Int):Pl×Option Fr×Int:=
 if (p.d.len n).2≠0 then (p,none,(p.d.len n).2)
 else if g<0\/g>=(p.d.len n).1 then (p,none,12)
 else if p.room.2≠0 then (p.room.1,none,p.room.2)
 else if (p.room.1.d.read n g).2≠0 then (p.room.1,none,(p.room.1.d.read n g).2)
 else match ja (p.room.1.d.read n g).1 with
  |none=>(p.room.1,none,20)
  |some (k,b)=>(p.room.1,some ⟨n,g.toNat,k,b,false,[],0⟩,0)
def Pl.bF (p:Pl)(n:ByteArray)(g:Int):Pl×Int×Int:=
 if p.wrong≠0 then (p,0,p.wrong) else
 match p.find n g with
 |some i=>(p.iG i,p.next,0)
 |none=>
   match p.load n g with
   |(q,some f,_)=>(q.take f,q.next,0)
   |(q,none,e)=>(q.met e,0,e)
def Pl.fresh (p:Pl)(n:ByteArray):Pl×Int×Int×Int:=
 if p.wrong≠0 then (p,0,0,p.wrong)
 else if (p.d.len n).2≠0 then (p.met (p.d.len n).2,0,0,(p.d.len n).2)
 else if p.room.2≠0 then (p.room.1.met p.room.2,0,0,p.room.2)
 else if (p.room.1.d.write n (p.d.len n).1 (cT 0 [])).2≠0 then ((p.room.1.bJ (p.room.1.d.write n (p.d.len n).1 (cT 0 [])).1).met (p.room.1.d.write n (p.d.len n).1 (cT 0 [])).2,0,0,(p.room.1.d.write n (p.d.len n).1 (cT 0 [])).2)
 else ((p.room.1.bJ (p.room.1.d.write n (p.d.len n).1 (cT 0 [])).1).take ⟨n,(p.d.len n).1,0,[],false,[],0⟩,p.room.1.next,(p.d.len n).1,0)
def Pl.get (p:Pl)(h:Int):UInt8×List UInt8×Int:=
 if p.wrong≠0 then (0,[],p.wrong) else match p.held h with
 |some i=>((p.frame i).kind,(p.frame i).b,0)
 |none=>(0,[],32)
def Fr.set (k:UInt8)(b:List UInt8)(f:Fr):Fr:={f with kind:=k,b:=b,dirty:=true}
def Pl.set (p:Pl)(h:Int)(k:UInt8)(b:List UInt8):Pl×Int:=
 if p.wrong≠0 then (p,p.wrong) else match p.held h with
 |some i=>if b.length>504 then (p,2) else (p.dz i (Fr.set k b),0)
 |none=>(p,32)
def Fr.bk (h t:Int)(f:Fr):Fr:={f with pins:=f.pins.filter (λx=>decide (x≠h)),left:=t}
def Pl.bk (p:Pl)(h:Int):Pl×Int:=
 if p.wrong≠0 then (p,p.wrong) else match p.held h with
 |some i=>({p with fs:=p.fs.modify i (Fr.bk h (fT (p.tick+1))),tick:=fT (p.tick+1)},0)
 |none=>(p,32)
def DE (a:Nat):List Nat->List Nat
 |[]=>[a]
 |b::l=>if a<=b then a::b::l else b::DE a l
def GK:List Nat->List Nat
 |[]=>[]
 |a::l=>DE a (GK l)
theorem qA (a:Nat):∀l:List Nat,(DE a l).Perm (a::l)
 |[]=>.refl _
 |b::l=>by
   unfold DE;split
   ·exact .refl _
   ·exact((qA a l).cons b).trans (.swap a b l)
theorem CS {a:Nat}:∀{l:List Nat},l.Pairwise (·<=·)->(DE a l).Pairwise (·<=·)
 |[],_=>List.pairwise_singleton _ _
 |b::l,h=>by
   have c:=R0.1 h;unfold DE;split
   ·rename_i q;exact R0.2 ⟨λx f=>by rcases QX.1 f with u|u;omega;have:=c.1 x u;omega,h⟩
   ·rename_i q;refine R0.2 ⟨λx f=>?_,CS c.2⟩;rcases QX.1 ((qA a l).mem_iff.1 f) with u|u
    ·omega
    ·exact c.1 x u
theorem KT (l:List Nat):GK l=l.mergeSort λa b=>decide (a<=b):=by
 have h1:∀l:List Nat,(GK l).Perm l/\(GK l).Pairwise (·<=·):=λl=>by
  induction l with
  |nil=>exact⟨.refl _,UY⟩
  |cons a l f=>exact⟨(qA a _).trans (f.1.cons a),CS f.2⟩
 refine List.Perm.eq_of_pairwise (le:=λa b:Nat=>a<=b) (λa b _ _ h1 g=>Nat.le_antisymm h1 g) (h1 l).2 ?_ ((h1 l).1.trans (RG _ _).symm);exact(List.pairwise_mergeSort (le:=λa b:Nat=>decide (a<=b)) (λa b c u v=>decide_eq_true (QZ (of_decide_eq_true u) (of_decide_eq_true v))) (λa b=>by simp;omega) l).imp λh=>of_decide_eq_true h
def Pl.bE (p:Pl)(n:ByteArray):List Nat:=GK ((p.fs.filter λf=>f.name.toList==n.toList).map (·.page))
theorem Pl.gQ (p:Pl)(n:ByteArray):p.bE n=((p.fs.filter λf=>f.name.toList==n.toList).map (·.page)).mergeSort λa b=>decide (a<=b):=KT _
def Pl.bq (n:ByteArray):List Nat->Pl->Pl×Int
 |[],p=>(p,0)
 |k::l,p=>
   match p.find n k with
   |some i=>if (p.frame i).dirty then (if (p.put i).2=0 then bq n l (p.put i).1 else p.put i) else bq n l p
   |none=>bq n l p
def Pl.flush (p:Pl)(n:ByteArray):Pl×Int:=
 if p.wrong≠0 then (p,p.wrong)
 else if (p.d.len n).2≠0 then Pl.out (p,(p.d.len n).2)
 else if (Pl.bq n (p.bE n) p).2≠0 then Pl.out (Pl.bq n (p.bE n) p)
 else Pl.out ((Pl.bq n (p.bE n) p).1.bJ ((Pl.bq n (p.bE n) p).1.d.sync n).1,((Pl.bq n (p.bE n) p).1.d.sync n).2)
def Pl.forget (p:Pl)(n:ByteArray):Pl:={p with fs:=p.fs.filter λf=>!(f.name.toList==n.toList)}
def Pl.c9 (p:Pl)(n:ByteArray):Pl×Int:=
 if p.wrong≠0 then (p,p.wrong)
 else if (p.d.len n).2≠0 then Pl.out (p,(p.d.len n).2)
 else if p.fs.any (λf=>f.name.toList==n.toList&&!f.pins.isEmpty) then (p,31)
 else Pl.out ((p.forget n).bJ (p.d.remove n).1,(p.d.remove n).2)
def Pl.pinned (p:Pl):Nat:=(p.fs.filter λf=>!f.pins.isEmpty).length
def me (d:Dk)(m:Nat):Pl:=⟨d,m,[],1,0,0,0⟩
def Fr.key (f:Fr):ByteArray×Nat:=(f.name,f.page)
def Pl.pins (p:Pl):Nat:=(p.fs.map λf=>f.pins.length).sum
structure Pl.WF (p:Pl):Prop where
 keys:(p.fs.map Fr.key).Nodup
 len:p.fs.length<=p.most
 most:8<=p.most/\p.most<=4096
 room:∀f∈p.fs,f.b.length<=504
 az:∀f∈p.fs,f.page<1048577/\f.name.size<=9223372036854775807
 pins:(p.fs.flatMap (·.pins)).Nodup
 old:∀f∈p.fs,∀h∈f.pins,1<=h/\h<p.next
 tick:0<=p.tick/\p.tick+p.pins<p.next
 lefts:∀(i j:Nat) (f g:Fr),p.fs[i]?=some f->p.fs[j]?=some g->f.pins=[]->g.pins=[]->f.left=g.left->i=j
 past:∀f∈p.fs,0<=f.left/\f.left<=p.tick
 peak:p.fs.length<=p.peak/\p.peak<=p.most
theorem px {α:Type}{l:List α}{q:α->Bool}{i:Nat}{x:α}(a:l[i]?=some x)(b:q x=true)(hu:∀j y,l[j]?=some y->q y=true->j=i):l.findIdx? q=some i:=by
 obtain⟨hi,rfl⟩:=QJ.1 a;rw[SM];refine⟨hi,b,λj c=>?_⟩;cases h:q l[j] with
 |false=>simp
 |true=>have:=hu j _ (QK (by omega)) h;omega
theorem rY {α:Type}{l:List α}{q:α->Bool}{i:Nat}(h:l.findIdx? q=some i):∃x,l[i]?=some x/\q x=true:=by
 rw[SM] at h;obtain⟨h1,a,_⟩:=h;exact⟨l[i],QK h1,a⟩
theorem Pl.fZ {p:Pl}{i:Nat}{f:Fr}(h:p.fs[i]?=some f):p.frame i=f:=by simp[Pl.frame,h]
theorem Pl.nK {p:Pl}{n:ByteArray}{g:Int}{i:Nat}(h:p.find n g=some i):∃f,p.fs[i]?=some f/\f.name=n/\(f.page:Int)=g:=by
 obtain⟨f,h1,a⟩:=rY h;simp only[QY,beq_iff_eq,decide_eq_true_eq] at a;exact⟨f,h1,ig a.1,a.2⟩
theorem Pl.qE {p:Pl}{n:ByteArray}{g:Int}(h:p.find n g=none):∀f∈p.fs,f.name=n->(f.page:Int)≠g:=by
 unfold Pl.find at h;rw[Tc] at h;intro f a e b;have:=h f a;rw[e] at this;simp[b] at this
theorem key_inj {p:Pl}(h:(p.fs.map Fr.key).Nodup){i j:Nat}{f g:Fr}(hi:p.fs[i]?=some f)(b:p.fs[j]?=some g)(c:f.name=g.name)(m:f.page=g.page):i=j:=by
 have a:=(QJ.1 hi).1;refine(UX (l:=p.fs.map Fr.key) (by simpa using a) h).1 ?_;rw[QV,QV,hi,b];simp[Fr.key,c,m]
theorem Pl.find_eq {p:Pl}(hw:p.WF){i:Nat}{f:Fr}(h:p.fs[i]?=some f):p.find f.name f.page=some i:=by
 refine px h (by simp) λj g b a=>?_;simp only[QY,beq_iff_eq,decide_eq_true_eq] at a;exact key_inj hw.keys b h (ig a.1) (by omega)
theorem Pl.iQ {p:Pl}{h:Int}{i:Nat}(e:p.held h=some i):∃f,p.fs[i]?=some f/\h∈f.pins:=by
 obtain⟨f,h1,a⟩:=rY e;exact⟨f,h1,by simpa using a⟩
theorem tO {α β:Type}{u:α->List β}:∀{l:List α},(l.flatMap u).Nodup->∀{i j:Nat} {f g:α} {x:β},l[i]?=some f->l[j]?=some g->x∈u f->x∈u g->i=j
 |[],_,i,j,f,g,x,hi,_,_,_=>by simp at hi
 |a::l,h,i,j,f,g,x,hi,b,c,m=>by
   rw[RC,Sz] at h;obtain⟨h1,o,n⟩:=h
   match i,j with
   |0,0=>rfl
   |0,j+1=>
     simp only[Vs,RH,RV] at hi b;subst hi;exact absurd rfl (n x c x (Sm.2 ⟨g,QL b,m⟩))
   |i+1,0=>
     simp only[Vs,RH,RV] at hi b;subst b;exact absurd rfl (n x m x (Sm.2 ⟨f,QL hi,c⟩))
   |i+1,j+1=>
     simp only[RV] at hi b;rw[tO o hi b c m]
theorem Pl.JQ {p:Pl}(hw:p.WF){i:Nat}{f:Fr}{h:Int}(e:p.fs[i]?=some f)(hm:h∈f.pins):p.held h=some i:=
 px e (by simpa using hm) λ_ _ a b=>tO hw.pins a e (by simpa using b) hm
def ud (l:List Fr)(b:Option (Nat×Int)):Prop:=
 match b with
 |none=>∀f∈l,f.pins≠[]
 |some (i,t)=>∃f,l[i]?=some f/\f.pins=[]/\f.left=t/\∀g∈l,g.pins=[]->t<=g.left
theorem uA:∀(r l:List Fr) (b:Option (Nat×Int)),ud l b->ud (l++r) (gL r l.length b)
 |[],l,b,h=>by simpa[gL] using h
 |f::r,l,b,h=>by
   unfold gL;have key:ud (l++[f]) (if f.pins.isEmpty&&nq f b then some (l.length,f.left) else b):=by
    cases o:f.pins.isEmpty with
    |false=>
      have j:f.pins≠[]:=by intro e;rw[e] at o;cases o
      rw[Bool.false_and,if_neg (by simp)];cases b with
      |none=>
        intro g y;rcases QQ.1 y with q|q
        ·exact h g q
        ·simp at q;subst q;exact j
      |some it=>
        obtain⟨i,t⟩:=it;obtain⟨g,h1,p,u,n⟩:=h;refine⟨g,?_,p,u,λx c a=>?_⟩
        ·rw[Rf (QJ.1 h1).1];exact h1
        ·rcases QQ.1 c with q|q
         ·exact n x q a
         ·simp at q;subst q;exact absurd a j
    |true=>
      have he:f.pins=[]:=Tb.1 o;cases b with
      |none=>
        rw[WI,show nq f none=true from rfl,if_pos rfl];refine⟨f,by simp,he,rfl,λx c a=>?_⟩;rcases QQ.1 c with q|q
        ·exact absurd a (h x q)
        ·simp at q;subst q;exact TG _
      |some it=>
        obtain⟨i,t⟩:=it;obtain⟨g,h1,p,u,n⟩:=h;rw[WI];by_cases m:f.left<t
        ·rw[show nq f (some (i,t))=true from by simp[nq,m],if_pos rfl];refine⟨f,by simp,he,rfl,λx c a=>?_⟩;rcases QQ.1 c with q|q
         ·have:=n x q a;omega
         ·simp at q;subst q;exact TG _
        ·rw[show nq f (some (i,t))=false from by simp[nq,m],if_neg (by simp)];refine⟨g,?_,p,u,λx c a=>?_⟩
         ·rw[Rf (QJ.1 h1).1];exact h1
         ·rcases QQ.1 c with q|q
          ·exact n x q a
          ·simp at q;subst q;omega
   have:=uA r (l++[f]) _ key;rw[Ri,SQ,RD,V9] at this;exact this
theorem Pl.Dd (p:Pl):ud p.fs (gL p.fs 0 none):=by
 have:=uA p.fs [] none (by intro f a;cases a);simpa using this
theorem Pl.DH {p:Pl}(h:p.ky=none):∀f∈p.fs,f.pins≠[]:=by
 have:=p.Dd;unfold Pl.ky at h;rw[Option.map_eq_none_iff] at h;rw[h] at this;exact this
theorem Pl.jZ {p:Pl}{i:Nat}(h:p.ky=some i):∃f,p.fs[i]?=some f/\f.pins=[]/\∀g∈p.fs,g.pins=[]->f.left<=g.left:=by
 have:=p.Dd;unfold Pl.ky at h;rw[TP] at h;obtain⟨⟨j,t⟩,h1,rfl⟩:=h;rw[h1] at this;obtain⟨f,a,b,c,m⟩:=this;exact⟨f,a,b,λg n o=>by rw[c];exact m g n o⟩
theorem Pl.Jx {p:Pl}(hw:p.WF){i:Nat}{f:Fr}(a:p.fs[i]?=some f)(b:f.pins=[])(m:∀g∈p.fs,g.pins=[]->f.left<=g.left):p.ky=some i:=by
 cases h:p.ky with
 |none=>exact absurd b (Pl.DH h f (QL a))
 |some j=>
   obtain⟨g,h1,c,n⟩:=Pl.jZ h;have o:=m g (QL h1) c;have q:=n f (QL a) b;rw[hw.lefts j i g f h1 a c b (by omega)]
theorem Pl.WF.ag {p q:Pl}(h:p.WF)(g:q.fs=p.fs)(hm:q.most=p.most)(i:q.next=p.next)(j:q.tick=p.tick)(hk:q.peak=p.peak):q.WF:=by
 obtain⟨d,most,fs,next,tick,peak,wrong⟩:=q;obtain⟨n,b,m,next',c,f,a⟩:=p;simp only at g hm i j hk;subst g;subst hm;subst i;subst j;subst hk;exact⟨h.keys,h.len,h.most,h.room,h.az,h.pins,h.old,h.tick,h.lefts,h.past,h.peak⟩
theorem Pl.WF.bJ {p:Pl}(h:p.WF)(d:Dk):(p.bJ d).WF:=h.ag rfl rfl rfl rfl rfl
theorem Pl.WF.met {p:Pl}(h:p.WF)(e:Int):(p.met e).WF:=by
 unfold Pl.met;split
 ·exact h.ag rfl rfl rfl rfl rfl
 ·exact h
theorem gr {α β:Type}(u:α->List β)(g:α->α):∀(l:List α) (i:Nat) (x:α),l[i]?=some x->u (g x)=u x->(l.modify i g).flatMap u=l.flatMap u
 |[],i,x,h,_=>by simp at h
 |a::l,0,x,h,e=>by simp at h;subst h;simp[e]
 |a::l,i+1,x,h,e=>by
   simp only[RV] at h;simp[gr u g l i x h e]
theorem dg {α β:Type}(u:α->β)(g:α->α)(l:List α)(i:Nat)(x:α)(h:l[i]?=some x)(e:u (g x)=u x):(l.modify i g).map u=l.map u:=by
 have:=gr (λy=>[u y]) g l i x h (by simp[e]);simpa[List.flatMap_singleton',List.map_eq_flatMap] using this
theorem mem_modify {α:Type}{l:List α}{i:Nat}{g:α->α}{x y:α}(b:l[i]?=some x)(c:y∈l.modify i g):y∈l\/y=g x:=by
 obtain⟨j,a⟩:=QU.1 c;by_cases e:i=j
 ·subst e;rw[eM b] at a;cases a;exact .inr rfl
 ·rw[eP e] at a;exact .inl (QL a)
theorem Pl.WF.dz {p:Pl}(h:p.WF){i:Nat}{f:Fr}{u:Fr->Fr}(c:p.fs[i]?=some f)(hk:(u f).key=f.key)(n:(u f).pins=f.pins)(hl:(u f).left=f.left)(B:(u f).b.length<=504):(p.dz i u).WF:=by
 have hm:=QL c;have get:∀(j:Nat) (g:Fr),(p.fs.modify i u)[j]?=some g->∃g',p.fs[j]?=some g'/\g.pins=g'.pins/\g.left=g'.left:=by
  intro j g o;by_cases e:i=j
  ·subst e;rw[eM c] at o;cases o;exact⟨f,c,n,hl⟩
  ·rw[eP e] at o;exact⟨g,o,rfl,rfl⟩
 refine⟨?_,?_,h.most,?_,?_,?_,?_,?_,?_,?_,?_⟩
 ·show ((p.fs.modify i u).map Fr.key).Nodup;rw[dg Fr.key u p.fs i f c hk];exact h.keys
 ·show (p.fs.modify i u).length<=p.most;rw[T1];exact h.len
 ·intro g m;rcases mem_modify c m with q|q
  ·exact h.room g q
  ·subst q;exact B
 ·intro g m;rcases mem_modify c m with q|q
  ·exact h.az g q
  ·subst q;have C:(u f).page=f.page:=congrArg XV hk;have D:(u f).name=f.name:=congrArg Xo hk;rw[C,D];exact h.az f hm
 ·show ((p.fs.modify i u).flatMap (·.pins)).Nodup;rw[gr (·.pins) u p.fs i f c n];exact h.pins
 ·intro g m;rcases mem_modify c m with q|q
  ·exact h.old g q
  ·subst q;rw[n];exact h.old f hm
 ·refine⟨h.tick.1,?_⟩;have e:(p.dz i u).pins=p.pins:=by
   show ((p.fs.modify i u).map λf=>f.pins.length).sum=_;rw[dg (λf=>f.pins.length) u p.fs i f c (by rw[n])];rfl
  rw[e];exact h.tick.2
 ·intro a b x y F G z hyp A;obtain⟨x',I,J,K⟩:=get a x F;obtain⟨y',L,r2,M⟩:=get b y G;exact h.lefts a b x' y' I L (by rw[<-J];exact z) (by rw[<-r2];exact hyp) (by rw[<-K,<-M];exact A)
 ·intro g m;rcases mem_modify c m with q|q
  ·exact h.past g q
  ·subst q;rw[hl];exact h.past f hm
 ·show (p.fs.modify i u).length<=p.peak/\_;rw[T1];exact h.peak
theorem Pl.WF.put {p:Pl}(h:p.WF){i:Nat}{f:Fr}(a:p.fs[i]?=some f):(p.put i).1.WF:=by
 unfold Pl.put;split
 ·exact(h.bJ _).dz a rfl rfl rfl (h.room f (QL a))
 ·exact h.bJ _
theorem sQ {α β:Type}(u:α->List β){l r:List α}(h:l.Sublist r):(l.flatMap u).Sublist (r.flatMap u):=by
 induction h with
 |slnil=>simp
 |cons a _ b=>rw[RC];exact b.trans (List.sublist_append_right _ _)
 |cons_cons a _ b=>rw[RC,RC];exact(XJ _).append b
theorem Az {α:Type}(u:α->Nat){l r:List α}(h:l.Sublist r):(l.map u).sum<=(r.map u).sum:=by
 induction h with
 |slnil=>simp
 |cons a _ b=>rw[Q7,RS];omega
 |cons_cons a _ b=>rw[Q7,RS,Q7,RS];omega
theorem Pl.WF.sub {p q:Pl}(h:p.WF)(hs:q.fs.Sublist p.fs)(hm:q.most=p.most)(C:q.next=p.next)(D:q.tick=p.tick)(hk:q.peak=p.peak):q.WF:=by
 have a:∀f∈q.fs,f∈p.fs:=λf c=>hs.subset c;have hlen:=hs.length_le;refine⟨?_,by rw[hm];have:=h.len;omega,by rw[hm];exact h.most,λf c=>h.room f (a f c),λf c=>h.az f (a f c),?_,λf c=>by rw[C];exact h.old f (a f c),?_,?_,λf c=>by rw[D];exact h.past f (a f c),by rw[hk,hm];have:=h.peak;omega⟩
 ·exact(hs.map Fr.key).nodup h.keys
 ·exact(sQ (·.pins) hs).nodup h.pins
 ·rw[D,C];refine⟨h.tick.1,?_⟩;have:q.pins<=p.pins:=by
   unfold Pl.pins;exact Az (λf:Fr=>f.pins.length) hs
  have:=h.tick.2;omega
 ·-- frames that none holds differ in when they were left
  have y:(p.fs.filter λf=>f.pins.isEmpty).Pairwise (λf g=>f.left≠g.left):=by
   rw[Ys,SJ];intro i j hi z F A B e;have:=h.lefts i j _ _ (QK hi) (QK z) (Tb.1 A) (Tb.1 B) e;omega
  have b:(q.fs.filter λf=>f.pins.isEmpty).Pairwise (λf g=>f.left≠g.left):=y.sublist (hs.filter _);rw[Ys,SJ] at b;intro i j f g hi z m n e;obtain⟨o,rfl⟩:=QJ.1 hi;obtain⟨u,rfl⟩:=QJ.1 z;rcases Nat.lt_trichotomy i j with x|x|x
  ·exact absurd e (b i j o u x (Tb.2 m) (Tb.2 n))
  ·exact x
  ·exact absurd e.symm (b j i u o x (Tb.2 n) (Tb.2 m))
theorem Pl.WF.drop {p:Pl}(h:p.WF)(i:Nat):(p.drop i).WF:=h.sub (Yn _ _) rfl rfl rfl rfl
theorem Pl.WF.forget {p:Pl}(h:p.WF)(n:ByteArray):(p.forget n).WF:=h.sub Uf rfl rfl rfl rfl
theorem Pl.xT (p:Pl)(i:Nat):(p.put i).1.fs.length=p.fs.length:=by
 unfold Pl.put;split
 ·show (p.fs.modify i _).length=_;rw[T1]
 ·rfl
theorem Pl.tx (p:Pl)(i:Nat):(p.put i).1.most=p.most/\(p.put i).1.next=p.next/\(p.put i).1.tick=p.tick/\(p.put i).1.peak=p.peak/\(p.put i).1.wrong=p.wrong:=by
 unfold Pl.put;split<;>exact⟨rfl,rfl,rfl,rfl,rfl⟩
theorem Pl.cI (p:Pl):p.room.1.most=p.most/\p.room.1.next=p.next/\p.room.1.tick=p.tick/\p.room.1.peak=p.peak/\p.room.1.wrong=p.wrong:=by
 unfold Pl.room;split
 ·exact⟨rfl,rfl,rfl,rfl,rfl⟩
 ·split
  ·exact⟨rfl,rfl,rfl,rfl,rfl⟩
  ·split
   ·split
    ·exact p.tx _
    ·exact p.tx _
   ·exact⟨rfl,rfl,rfl,rfl,rfl⟩
theorem Pl.WF.yh {p:Pl}(h:p.WF):p.room.1.WF/\(p.room.2=0->p.room.1.fs.length<p.most):=by
 unfold Pl.room;split
 ·rename_i q;exact⟨h,λ_=>q⟩
 ·split
  ·exact⟨h,λq=>by cases q⟩
  ·rename_i i hi;obtain⟨f,b,_,_⟩:=Pl.jZ hi;have a:=(QJ.1 b).1;have hlen:=h.len;split
   ·split
    ·refine⟨(h.put b).drop i,λ_=>?_⟩;show ((p.put i).1.fs.eraseIdx i).length<p.most;rw[SV (by rw[Pl.xT];exact a),Pl.xT];omega
    ·rename_i q;exact⟨h.put b,λc=>absurd c q⟩
   ·refine⟨h.drop i,λ_=>?_⟩;show (p.fs.eraseIdx i).length<p.most;rw[SV a];omega
theorem sf {h:Int}:∀(l:List Fr) (i:Nat) (f:Fr),l[i]?=some f->((l.modify i (Fr.bF h)).flatMap (·.pins)).Perm (h::l.flatMap (·.pins))
 |[],i,f,e=>by simp at e
 |a::l,0,f,e=>by
   simp only[Wa,RC,Fr.bF,RD,V9];exact Zc
 |a::l,i+1,f,e=>by
   simp only[RV] at e;simp only[UM,RC];exact((sf l i f e).append_left a.pins).trans Zc
theorem Pl.WF.iG {p:Pl}(h:p.WF){i:Nat}{f:Fr}(m:p.fs[i]?=some f)(D:p.next<9223372036854775807):(p.iG i).WF:=by
 have hm:=QL m;have B:=h.tick;have hw:fT (p.next+1)=p.next+1:=by unfold fT;exact wrap64 (by omega) (by omega)
 refine⟨?_,?_,h.most,?_,?_,?_,?_,?_,?_,?_,?_⟩
 ·show ((p.fs.modify i _).map Fr.key).Nodup;rw[dg Fr.key _ p.fs i f m rfl];exact h.keys
 ·show (p.fs.modify i _).length<=p.most;rw[T1];exact h.len
 ·intro g c;rcases mem_modify m c with q|q
  ·exact h.room g q
  ·subst q;exact h.room f hm
 ·intro g c;rcases mem_modify m c with q|q
  ·exact h.az g q
  ·subst q;exact h.az f hm
 ·show ((p.fs.modify i _).flatMap (·.pins)).Nodup;rw[(sf p.fs i f m).nodup_iff,To];refine⟨λn=>?_,h.pins⟩;obtain⟨g,c,z⟩:=Sm.1 n;have:=(h.old g c _ z).2;omega
 ·intro g c x n;show 1<=x/\x<fT (p.next+1);rw[hw];rcases mem_modify m c with q|q
  ·have:=h.old g q x n;omega
  ·subst q;rcases QQ.1 n with r|r
   ·have:=h.old f hm x r;omega
   ·simp at r;omega
 ·show 0<=p.tick/\p.tick+(((p.fs.modify i (Fr.bF p.next)).map λf=>f.pins.length).sum:Nat)<fT (p.next+1);rw[hw];have:=fK (λf:Fr=>f.pins.length) (Fr.bF p.next) p.fs i f m;simp only[Fr.bF,Ri,SQ] at this;unfold Pl.pins at B;exact⟨B.1,by omega⟩
 ·intro a b x y n C o hyp A;have ne:∀(j:Nat) (g:Fr),(p.fs.modify i (Fr.bF p.next))[j]?=some g->g.pins=[]->p.fs[j]?=some g:=by
   intro j g u c;by_cases e:i=j
   ·subst e;rw[eM m] at u;cases u;simp[Fr.bF] at c
   ·rw[eP e] at u;exact u
  exact h.lefts a b x y (ne a x n o) (ne b y C hyp) o hyp A
 ·intro g c;rcases mem_modify m c with q|q
  ·exact h.past g q
  ·subst q;exact h.past f hm
 ·show (p.fs.modify i _).length<=p.peak/\_;rw[T1];exact h.peak
theorem Pl.MY (p:Pl)(f:Fr):(p.add f).fs[p.fs.length]?=some f:=by simp[Pl.add]
theorem Pl.WF.take {p:Pl}(h:p.WF){f:Fr}(hl:p.fs.length<p.most)(N:p.next<9223372036854775807)(hk:p.find f.name f.page=none)(K:f.b.length<=504)(B:f.page<1048577)(C:f.name.size<=9223372036854775807)(z:f.pins=[])(D:f.left=0):(p.take f).WF:=by
 have I:=h.tick;have hw:fT (p.next+1)=p.next+1:=by unfold fT;exact wrap64 (by omega) (by omega)
 have e:(p.take f).fs=p.fs++[Fr.bF p.next f]:=by
  show (p.fs++[f]).modify p.fs.length (Fr.bF p.next)=_;have m:(p.fs++[f])[p.fs.length]?=some f:=p.MY f;rw[bm m];simp
 have mem:∀g∈(p.take f).fs,g∈p.fs\/g=Fr.bF p.next f:=λg c=>by
  rw[e] at c;simpa using c
 have n:(p.take f).next=p.next+1:=hw
 have L:=h.peak;refine⟨?_,?_,h.most,?_,?_,?_,?_,?_,?_,?_,?_⟩
 ·rw[e,Rm,Sz];refine⟨h.keys,by simp,λa m b i=>?_⟩;obtain⟨g,c,rfl⟩:=QW.1 m;simp only[Q7,TD,Q1] at i;subst i;intro eq;have M:g.name=f.name:=congrArg Xo eq;have O:g.page=f.page:=congrArg XV eq;exact Pl.qE hk g c M (by omega)
 ·rw[e];show _<=p.most;simp;omega
 ·intro g c;rcases mem g c with q|q
  ·exact h.room g q
  ·subst q;exact K
 ·intro g c;rcases mem g c with q|q
  ·exact h.az g q
  ·subst q;exact⟨B,C⟩
 ·rw[e,List.flatMap_append,Sz];refine⟨h.pins,by simp[Fr.bF,z],λa m b i=>?_⟩;obtain⟨g,c,F⟩:=Sm.1 m;simp[Fr.bF,z] at i;have:=(h.old g c a F).2;omega
 ·intro g c x o;rw[n];rcases mem g c with q|q
  ·have:=h.old g q x o;omega
  ·subst q;simp[Fr.bF,z] at o;omega
 ·rw[n];refine⟨I.1,?_⟩;have:(p.take f).pins=p.pins+1:=by
   unfold Pl.pins;rw[e];simp[Fr.bF,z]
  show p.tick+_<_;rw[this];omega
 ·intro a b x y o J u hyp G;rw[e] at o J;have ne:∀(j:Nat) (g:Fr),(p.fs++[Fr.bF p.next f])[j]?=some g->g.pins=[]->p.fs[j]?=some g:=by
   intro j g A c;rw[List.getElem?_append] at A;split at A
   ·exact A
   ·have:g=Fr.bF p.next f:=by have:=QL A;simpa using this
    subst this;simp[Fr.bF] at c
  exact h.lefts a b x y (ne a x o u) (ne b y J hyp) u hyp G
 ·intro g c;rcases mem g c with q|q
  ·exact h.past g q
  ·subst q;show 0<=f.left/\f.left<=p.tick;rw[D];exact⟨TG _,I.1⟩
 ·rw[e];show _<=max p.peak (p.fs.length+1)/\max p.peak (p.fs.length+1)<=p.most;simp only[Ri,SQ];omega
theorem filter_one {h:Int}{l:List Int}(hd:l.Nodup)(hm:h∈l):(l.filter λx=>decide (x≠h)).length+1=l.length:=by
 induction l with
 |nil=>cases hm
 |cons a l c=>
   rw[To] at hd;rw[S0];by_cases e:a=h
   ·subst e;have:l.filter (λx=>decide (x≠a))=l:=by
     rw[List.filter_eq_self];intro x f;have:x≠a:=λe=>hd.1 (e▸f);simp[this]
    rw[this];simp
   ·have b:h∈l:=by
     rcases QX.1 hm with q|q
     ·exact absurd q.symm e
     ·exact q
    have:=c hd.2 b;simp only[ne_eq,e,not_false_eq_true,decide_true,if_true,Rr];simp only[ne_eq] at this;omega
theorem po {α β:Type}{u:α->List β}:∀{l:List α},(l.flatMap u).Nodup->∀{i:Nat} {x:α},l[i]?=some x->(u x).Nodup
 |[],_,i,x,h=>by simp at h
 |a::l,hd,0,x,h=>by
   rw[RC,Sz] at hd;simp at h;subst h;exact hd.1
 |a::l,hd,i+1,x,h=>by
   rw[RC,Sz] at hd;exact po hd.2.1 (by simpa using h)
theorem sk {α β:Type}(u:α->List β)(g:α->α)(b:∀x,(u (g x)).Sublist (u x)):∀(l:List α) (i:Nat),((l.modify i g).flatMap u).Sublist (l.flatMap u)
 |[],i=>by simp
 |a::l,0=>by
   simp only[Wa,RC];exact(b a).append (XJ _)
 |a::l,i+1=>by
   simp only[UM,RC];exact(XJ _).append (sk u g b l i)
theorem Pl.WF.bk {p:Pl}(hw:p.WF)(h:Int)(L:p.next<9223372036854775807):(p.bk h).1.WF:=by
 unfold Pl.bk;split
 ·exact hw
 ·split
  ·rename_i i hi;obtain⟨f,m,hm⟩:=Pl.iQ hi;have n:=QL m;have I:=hw.tick;have B:=filter_one (po hw.pins m) hm;have J:f.pins.length<=p.pins:=l8 (λf:Fr=>f.pins.length) p.fs i f m;have C:fT (p.tick+1)=p.tick+1:=by unfold fT;exact wrap64 (by omega) (by omega)
   rw[C];have get:∀(j:Nat) (g:Fr),(p.fs.modify i (Fr.bk h (p.tick+1)))[j]?=some g->(j=i/\g=Fr.bk h (p.tick+1) f)\/(j≠i/\p.fs[j]?=some g):=by
    intro j g u;by_cases e:i=j
    ·subst e;rw[eM m] at u;cases u;exact .inl ⟨rfl,rfl⟩
    ·rw[eP e] at u;exact .inr ⟨λq=>e q.symm,u⟩
   refine⟨?_,?_,hw.most,?_,?_,?_,?_,?_,?_,?_,?_⟩
   ·show ((p.fs.modify i _).map Fr.key).Nodup;rw[dg Fr.key _ p.fs i f m rfl];exact hw.keys
   ·show (p.fs.modify i _).length<=p.most;rw[T1];exact hw.len
   ·intro g o;rcases mem_modify m o with q|q
    ·exact hw.room g q
    ·subst q;exact hw.room f n
   ·intro g o;rcases mem_modify m o with q|q
    ·exact hw.az g q
    ·subst q;exact hw.az f n
   ·exact(sk (·.pins) (Fr.bk h (p.tick+1)) (λx=>Uf) p.fs i).nodup hw.pins
   ·intro g o x z;rcases mem_modify m o with q|q
    ·exact hw.old g q x z
    ·subst q;exact hw.old f n x (List.mem_filter.1 z).1
   ·show 0<=p.tick+1/\p.tick+1+(((p.fs.modify i (Fr.bk h (p.tick+1))).map λf=>f.pins.length).sum:Nat)<p.next;have:=fK (λf:Fr=>f.pins.length) (Fr.bk h (p.tick+1)) p.fs i f m;simp only[Fr.bk] at this;unfold Pl.pins at I;constructor
    ·omega
    ·omega
   ·intro a b x y z G D hyp c;rcases get a x z with ⟨K,A⟩|⟨K,A⟩
    ·rcases get b y G with ⟨F,r2⟩|⟨F,r2⟩
     ·omega
     ·have:=hw.past y (QL r2);rw[A] at c;simp only[Fr.bk] at c;omega
    ·rcases get b y G with ⟨F,r2⟩|⟨F,r2⟩
     ·have:=hw.past x (QL A);rw[r2] at c;simp only[Fr.bk] at c;omega
     ·exact hw.lefts a b x y A r2 D hyp c
   ·intro g o;show 0<=g.left/\g.left<=p.tick+1;rcases mem_modify m o with q|q
    ·have:=hw.past g q;omega
    ·subst q;simp only[Fr.bk];omega
   ·show (p.fs.modify i _).length<=p.peak/\_;rw[T1];exact hw.peak
  ·exact hw
theorem GQ {d:Dk}{m:Nat}(h1:8<=m)(b:m<=4096):(me d m).WF:=by
 refine⟨by simp[me],by simp[me],⟨h1,b⟩,?_,?_,by simp[me],?_,?_,?_,?_,by simp[me]⟩
 ·intro f a;simp[me] at a
 ·intro f a;simp[me] at a
 ·intro f a;simp[me] at a
 ·simp[me,Pl.pins]
 ·intro i j f g hi;simp[me] at hi
 ·intro f a;simp[me] at a
section
open Go.MapKept
structure uC where
 p:Nat
 b:Sl
def uC.fp (g:uC)(b:Nat):Prop:=b=g.p\/ai g.b b
def OL (g:uC)(f:Fr):Array gp:=#[.string f.name,.int .i64 (f.page:Int),.int .u8 (f.kind.toNat:Int),g.b.v,.bool f.dirty,.int .i64 (f.pins.length:Int),.int .i64 f.left]
structure dK (H:aa)(g:uC)(f:Fr):Prop where
 row:ao H g.p Mz (OL g f)
 b:aF EB fU H g.b f.b
theorem dK.lt {H:aa}{g:uC}{f:Fr}(h:dK H g f):∀b,g.fp b->b<H.size:=by
 rintro b (rfl|a)
 ·exact aI h.row
 ·exact h.b.lt b a
theorem dK.ar {H H':aa}{g:uC}{f:Fr}(h:dK H g f)(k:∀b,g.fp b->b<H.size->H'[b]?=H[b]?):dK H' g f:=
 ⟨(k _ (.inl rfl) (aI h.row)).trans h.row,h.b.ar λb a=>k b (.inr a)⟩
theorem dK.obj {H:aa}{g:uC}{f:Fr}(h:dK H g f):∀b,g.fp b->∃cs t,H[b]?=some (.cells cs t (0,0))/\(t=Mz\/t=fU):=by
 rintro b (rfl|a)
 ·exact⟨_,_,h.row,.inl rfl⟩
 ·obtain⟨c,q⟩:=h.b.obj b a;exact⟨c,_,q,.inr rfl⟩
def jI (n:ByteArray)(g:Int):gp:=.agg #[.string n,.int .i64 g]
theorem mP {n m:ByteArray}{g k:Int}(h:jI n g=jI m k):n=m/\g=k:=by
 unfold jI at h;simp at h;exact h
abbrev FZ:=Fr×uC
def qx (zs:List FZ):List (gp×gp):=zs.map λz=>(jI z.1.name (z.1.page:Int),dt z.2.p)
def NY (z:FZ):List (gp×gp):=z.1.pins.map λh=>(QT .i64 h,dt z.2.p)
def xH (zs:List FZ):List (gp×gp):=zs.flatMap NY
structure PG where
 mf:Nat
 ef:Array nW
 cf:Nat
 mh:Nat
 eh:Array nW
 ch:Nat
 zs:List FZ
def PG.fs (x:PG):List Fr:=x.zs.map (·.1)
def PG.fp (x:PG)(b:Nat):Prop:=b=x.mf\/b=x.mh\/∃z∈x.zs,z.2.fp b
def LV (P:hQ)(kt:ic):Bool:=
 match P.underlying kt with
 |some (.struct fs)=>(match fs.toList with
   |[f0,f1]=>(match P.underlying f0.type with|some .string=>true|_=>false)&&(match P.underlying f1.type with|some (.int .i64)=>true|_=>false)
     &&Rh f0.offset 0&&Rh f1.offset 1&&Rh (P.cellsOf f0.type) 1&&Rh (P.cellsOf f1.type) 1&&(f0.name !="_")&&(f1.name !="_")&&Rh (P.cellsOf kt) 2&&P.keyType kt&&SF 0 P.types.size
   |_=>false)
 |_=>false
theorem Gp {P:hQ}{kt:ic}(h:LV P kt=true){n:ByteArray}{g:Int}(M:n.size<=9223372036854775807)(y:-9223372036854775808<=g)(h1:g<=9223372036854775807):xm P kt (jI n g):=by
 unfold LV at h;split at h
 ·rename_i fs hu;split at h
  ·rename_i f0 f1 b;simp only[QY,bne_iff_ne,ne_eq] at h;obtain⟨⟨⟨⟨⟨⟨⟨⟨⟨⟨q,a2⟩,a3⟩,a4⟩,a5⟩,z⟩,A⟩,B⟩,a9⟩,i⟩,j⟩:=h;have C:=Q0 a3;have D:=Q0 a4;have F:=Q0 a5;have G:=Q0 z;have u:=Q0 a9;have x:0<P.types.size:=gK.1 j;obtain⟨m,hm⟩:∃m,P.types.size=m+1:=⟨P.types.size - 1,by omega⟩;split at q
   ·rename_i I;split at a2
    ·rename_i J;have a:Zq P kt (jI n g)=true:=by
      unfold jI Zq;simp only[hu,u];rfl
     have o:(Lit.int .i64 g).wf=true:=by
      unfold Lit.wf;simp only[QY,decide_eq_true_eq];exact⟨by show (-9223372036854775808:Int)<=g;exact y,by show g<=(9223372036854775807:Int);exact h1⟩
     have c:fs.all (λf=>f.name !="_")=true:=by
      rw[<-XT,b];simp[A,B]
     have K:P.keyLits (m+1) f0.type [.string n]=some [.string n.data.toList]:=by
      unfold Xw;simp only[I];rw[if_pos (by unfold maxLen;omega)]
     have L:P.keyLits (m+1) f1.type [.int .i64 g]=some [.int .i64 g]:=by
      unfold Xw;simp only[J];rw[if_pos ⟨trivial,o⟩]
     refine⟨.string (keyBytes [.string n.data.toList,.int .i64 g]),?_⟩;unfold Go.keyOf;simp only[hu];rw[if_pos (by rw[i,a];rfl),hm];unfold Xw;simp only[hu];have p:(jI n g).cells.toList=[.string n,.int .i64 g]:=rfl;rw[p,if_pos ⟨by rw[u];rfl,c⟩,b];simp[List.mapM_cons,C,D,F,G,K,L]
    ·cases a2
   ·cases q
  ·cases h
 ·cases h
theorem xK:VH QH yn:=Go.deep_law_gate (by kernel_rfl) (UK (by kernel_rfl)) (UK (by kernel_rfl)) (by kernel_rfl) (by kernel_rfl)
theorem qV {n:ByteArray}{g:Int}(a:n.size<=9223372036854775807)(b:-9223372036854775808<=g)(h1:g<=9223372036854775807):xm QH yn (jI n g):=Gp (by kernel_rfl) a b h1
structure aS (H:aa)(x:PG):Prop where
 fmap:jq QH yn H x.mf x.ef x.cf
 hmap:ct (.int .i64) H x.mh x.eh x.ch
 ne:x.mf≠x.mh
 size:x.ef.size=x.zs.length
 entF:∀k v,fw x.ef k v↔(k,v)∈qx x.zs
 entH:∀k v,fw x.eh k v↔(k,v)∈xH x.zs
 each:∀z∈x.zs,dK H z.2 z.1
 apart:∀(i j:Nat) (z z':FZ),x.zs[i]?=some z->x.zs[j]?=some z'->i≠j->∀b,z.2.fp b->¬z'.2.fp b
theorem aS.lt {H:aa}{x:PG}(h:aS H x):∀b,x.fp b->b<H.size:=by
 rintro b (rfl|rfl|⟨z,a,c⟩)
 ·exact h.fmap.lt
 ·exact h.hmap.lt
 ·exact(h.each z a).lt b c
theorem aS.ar {H H':aa}{x:PG}(h:aS H x)(k:∀b,x.fp b->b<H.size->H'[b]?=H[b]?):aS H' x:=
 ⟨⟨(k _ (.inl rfl) h.fmap.lt).trans h.fmap.obj,h.fmap.stamped,h.fmap.keys⟩,h.hmap.ar (k _ (.inr (.inl rfl)) h.hmap.lt),h.ne,h.size,h.entF,h.entH,
   λz a=>(h.each z a).ar λb c=>k b (.inr (.inr ⟨z,a,c⟩)),h.apart⟩
theorem aS.off {H:aa}{x:PG}(h:aS H x){z:FZ}(b:z∈x.zs):¬z.2.fp x.mf/\¬z.2.fp x.mh:=by
 constructor
 ·intro a;obtain⟨cs,t,e,_⟩:=(h.each z b).obj _ a;rw[h.fmap.obj] at e;cases e
 ·intro a;obtain⟨cs,t,e,_⟩:=(h.each z b).obj _ a;rw[h.hmap.obj] at e;cases e
theorem aS.at {H:aa}{x:PG}(b:aS H x){i:Nat}{f:Fr}(a:x.fs[i]?=some f):∃g,x.zs[i]?=some (f,g):=by
 unfold PG.fs at a;rw[QV,TP] at a;obtain⟨⟨f',g⟩,h1,rfl⟩:=a;exact⟨g,h1⟩
theorem kB {α:Type}{l:List α}{i:Nat}{a y:α}(c:y∈l.set i a):(∃j,j≠i/\l[j]?=some y)\/y=a:=by
 obtain⟨j,b⟩:=QU.1 c;by_cases e:i=j
 ·subst e;have hl:i<l.length:=by have:=(QJ.1 b).1;simpa using this
  rw[Rx,if_pos rfl,if_pos hl] at b;cases b;exact .inr rfl
 ·rw[Rx,if_neg e] at b;exact .inl ⟨j,λq=>e q.symm,b⟩
theorem DS {H:aa}{x:PG}(h:aS H x){i:Nat}{z z':FZ}(y:x.zs[i]?=some z)(B:∀b,z'.2.fp b->z.2.fp b\/H.size<=b):
  ∀(a c:Nat) (u v:FZ),(x.zs.set i z')[a]?=some u->(x.zs.set i z')[c]?=some v->a≠c->∀b,u.2.fp b->¬v.2.fp b:=by
 have n:=(QJ.1 y).1;intro a c u v h1 m f b g j;rw[Rx] at h1 m;by_cases o:i=a
 ·subst o;rw[if_neg f] at m;rw[if_pos rfl,if_pos n] at h1;cases h1;have A:=(h.each v (QL m)).lt b j;rcases B b g with q|q
  ·exact h.apart i c z v y m f b q j
  ·omega
 ·rw[if_neg o] at h1;have A:=(h.each u (QL h1)).lt b g;by_cases p:i=c
  ·subst p;rw[if_pos rfl,if_pos n] at m;cases m;rcases B b j with q|q
   ·exact h.apart a i u z h1 y f b g q
   ·omega
  ·rw[if_neg p] at m;exact h.apart a c u v h1 m f b g j
theorem aS.set {H H':aa}{x:PG}(h:aS H x){i:Nat}{z z':FZ}{eh':Array nW}{ch':Nat}(f:x.zs[i]?=some z)(D:z'.1.name=z.1.name)(A:z'.1.page=z.1.page)(F:z'.2.p=z.2.p)
  (G:dK H' z'.2 z'.1) (I:ct (.int .i64) H' x.mh eh' ch') (m:∀k v,fw eh' k v↔(k,v)∈xH (x.zs.set i z'))
  (hm:∀b,x.fp b->¬z.2.fp b->b≠x.mh->b<H.size->H'[b]?=H[b]?) (C:∀b,z'.2.fp b->z.2.fp b\/H.size<=b):
  aS H' {x with zs:=x.zs.set i z',eh:=eh',ch:=ch'}/\(∀b,PG.fp {x with zs:=x.zs.set i z',eh:=eh',ch:=ch'} b->x.fp b\/H.size<=b):=by
 have n:=QL f;have o:=h.off n;refine⟨⟨⟨(hm _ (.inl rfl) o.1 h.ne h.fmap.lt).trans h.fmap.obj,h.fmap.stamped,h.fmap.keys⟩,I,h.ne,by simp[h.size],?_,m,?_,DS h f C⟩,?_⟩
 ·intro k v;have:qx (x.zs.set i z')=qx x.zs:=by
   unfold qx;rw[show x.zs.set i z'=x.zs.modify i (λ_=>z') from (bm (g:=λ_=>z') f).symm];exact dg _ _ _ _ _ f (by simp only[D,A,F])
  rw[this];exact h.entF k v
 ·intro u hu;rcases kB hu with ⟨j,B,y⟩|rfl
  ·have c:=QL y;exact(h.each u c).ar λb a hl=>hm b (.inr (.inr ⟨u,c,a⟩)) (λq=>h.apart j i u z y f B b a q) (λe=>(h.off c).2 (e▸a)) hl
  ·exact G
 ·rintro b (e|e|⟨u,hu,a⟩)
  ·exact .inl (.inl e)
  ·exact .inl (.inr (.inl e))
  ·rcases kB hu with ⟨j,_,y⟩|rfl
   ·exact .inl (.inr (.inr ⟨u,QL y,a⟩))
   ·exact(C b a).imp (λq=>.inr (.inr ⟨z,n,q⟩)) id
theorem aS.dz {H H':aa}{x:PG}(h:aS H x){i:Nat}{z z':FZ}(c:x.zs[i]?=some z)(o:z'.1.name=z.1.name)(f:z'.1.page=z.1.page)(j:z'.1.pins=z.1.pins)(n:z'.2.p=z.2.p)
  (q:dK H' z'.2 z'.1) (hm:∀b,x.fp b->¬z.2.fp b->b<H.size->H'[b]?=H[b]?) (u:∀b,z'.2.fp b->z.2.fp b\/H.size<=b):
  aS H' {x with zs:=x.zs.set i z'}/\(∀b,PG.fp {x with zs:=x.zs.set i z'} b->x.fp b\/H.size<=b):=by
 have m:=QL c;have a:=h.off m;refine h.set c o f n q (h.hmap.ar (hm _ (.inr (.inl rfl)) a.2 h.hmap.lt)) (λk v=>?_) (λb h1 y _ A=>hm b h1 y A) u;have:xH (x.zs.set i z')=xH x.zs:=by
  unfold xH;rw[show x.zs.set i z'=x.zs.modify i (λ_=>z') from (bm (g:=λ_=>z') c).symm];exact gr _ _ _ _ _ c (by simp only[NY,j,n])
 rw[this];exact h.entH k v
theorem BI (l r:List FZ):qx (l++r)=qx l++qx r:=by simp[qx]
theorem BL (l r:List FZ):xH (l++r)=xH l++xH r:=by simp[xH]
theorem CQ {z:FZ}(h:z.1.pins=[]):NY z=[]:=by simp[NY,h]
theorem tV {α:Type}{l:List α}{i j:Nat}{a:α}(b:(l.eraseIdx i)[j]?=some a):∃c,c≠i/\l[c]?=some a/\c=if j<i then j else j+1:=by
 rw[Ta] at b;split at b
 ·rename_i q;exact⟨j,by omega,b,by rw[if_pos q]⟩
 ·rename_i q;exact⟨j+1,by omega,b,by rw[if_neg q]⟩
theorem mem_erase {α:Type}{l:List α}{i:Nat}{a:α}:a∈l.eraseIdx i↔∃j,j≠i/\l[j]?=some a:=Tz
theorem aS.erase {H H':aa}{x:PG}(h:aS H x){i:Nat}{z:FZ}{g:Array nW}(m:x.zs[i]?=some z)(G:z.1.pins=[])(hk:(x.fs.map Fr.key).Nodup)(I:jq QH yn H' x.mf g x.cf)
  (n:∀k v,fw g k v↔fw x.ef k v/\k≠jI z.1.name (z.1.page:Int)) (hs:∀u,fw x.ef (jI z.1.name (z.1.page:Int)) u->g.size+1=x.ef.size)
  (hm:∀b,x.fp b->b≠x.mf->b<H.size->H'[b]?=H[b]?):aS H' {x with zs:=x.zs.eraseIdx i,ef:=g}:=by
 have old:∀u∈x.zs,dK H' u.2 u.1:=λu hu=>(h.each u hu).ar λb F hl=>hm b (.inr (.inr ⟨u,hu,F⟩)) (λe=>(h.off hu).1 (e▸F)) hl;have p:=(QJ.1 m).1;have y:=QL m;have J:=hs _ ((h.entF _ _).2 (QW.2 ⟨z,y,rfl⟩));have inj:∀(j:Nat) (u:FZ),x.zs[j]?=some u->u.1.name=z.1.name->u.1.page=z.1.page->j=i:=by
  intro j u f A B;have C:=(QJ.1 f).1;refine(UX (l:=x.fs.map Fr.key) (by simpa[PG.fs] using C) hk).1 ?_;simp[PG.fs,f,m,Fr.key,A,B]
 refine⟨I,h.hmap.ar (hm _ (.inr (.inl rfl)) h.ne.symm h.hmap.lt),h.ne,?_,?_,?_,?_,?_⟩
 ·simp only;rw[SV p];have:=h.size;omega
 ·intro k v;rw[n k v,h.entF k v];unfold qx;simp only[QW];constructor
  ·rintro⟨⟨u,hu,e⟩,D⟩;refine⟨u,?_,e⟩;obtain⟨j,f⟩:=QU.1 hu;refine mem_erase.2 ⟨j,λq=>?_,f⟩;subst q;rw[m] at f;cases f;simp only[RJ] at e;exact D e.1.symm
  ·rintro⟨u,hu,e⟩;obtain⟨j,o,f⟩:=mem_erase.1 hu;refine⟨⟨u,QL f,e⟩,λq=>o ?_⟩;simp only[RJ] at e;have:=mP (e.1.trans q);exact inj j u f this.1 (by omega)
 ·intro k v;rw[h.entH k v];unfold xH;simp only[Sm];constructor
  ·rintro⟨u,hu,e⟩;refine⟨u,?_,e⟩;obtain⟨j,f⟩:=QU.1 hu;refine mem_erase.2 ⟨j,λq=>?_,f⟩;subst q;rw[m] at f;cases f;rw[CQ G] at e;cases e
  ·rintro⟨u,hu,e⟩;obtain⟨j,o,f⟩:=mem_erase.1 hu;exact⟨u,QL f,e⟩
 ·intro u hu;exact old u (Se hu)
 ·intro a c u v h1 K L;obtain⟨M,n1,N,A⟩:=tV h1;obtain⟨O,n2,Q,B⟩:=tV K;refine h.apart M O u v N Q ?_;rw[A,B];split<;>split<;>omega
def pN (dp:Nat)(x:PG)(s:Pl):Array gp:=#[dt dp,.int .i64 (s.most:Int),.map (some x.mf),.map (some x.mh),.int .i64 s.next,.int .i64 s.tick,.int .i64 (s.peak:Int),.int .i64 s.wrong]
structure bG (x:PG)(H:aa)(p dp:Nat)(s:Pl):Prop where
 head:ao H p Ed (pN dp x s)
 ag:aS H x
 fs:s.fs=x.fs
 wf:s.WF
def PG.all (x:PG)(p b:Nat):Prop:=b=p\/x.fp b
theorem bG.off {x:PG}{H:aa}{p:Nat}{cs:Array gp}(hd:ao H p Ed cs)(h:aS H x):¬x.fp p:=by
 rintro(e|e|⟨z,b,f⟩)
 ·have:=h.fmap.obj;rw[<-e,hd] at this;cases this
 ·have:=h.hmap.obj;rw[<-e,hd] at this;cases this
 ·obtain⟨c,t,e,a⟩:=(h.each z b).obj _ f;have:=aM hd e;rw[<-this] at a;exact absurd a (by decide)
theorem bG.lt {x:PG}{H:aa}{p dp:Nat}{s:Pl}(h:bG x H p dp s):∀b,x.all p b->b<H.size:=by
 rintro b (rfl|a)
 ·exact aI h.head
 ·exact h.ag.lt b a
theorem bG.ar {x:PG}{H H':aa}{p dp:Nat}{s:Pl}(h:bG x H p dp s)(k:∀b,x.all p b->b<H.size->H'[b]?=H[b]?):bG x H' p dp s:=
 ⟨(k p (.inl rfl) (aI h.head)).trans h.head,h.ag.ar λb a=>k b (.inr a),h.fs,h.wf⟩
theorem bG.bJ {x:PG}{H:aa}{p dp:Nat}{s:Pl}(h:bG x H p dp s)(d:Dk):bG x H p dp (s.bJ d):=⟨h.head,h.ag,h.fs,h.wf.bJ d⟩
theorem bG.at {x:PG}{H:aa}{p dp:Nat}{s:Pl}(h:bG x H p dp s){i:Nat}{f:Fr}(a:s.fs[i]?=some f):∃g,x.zs[i]?=some (f,g)/\dK H g f:=by
 rw[h.fs] at a;obtain⟨g,b⟩:=h.ag.at a;exact⟨g,b,h.ag.each _ (QL b)⟩
theorem bG.n {x:PG}{H:aa}{p dp:Nat}{s:Pl}(h:bG x H p dp s):x.ef.size=s.fs.length:=by rw[h.fs,h.ag.size];simp[PG.fs]
structure bQ (x:PG)(D:Nat->Prop)(H:aa)(p dp:Nat)(s:Pl):Prop where
 aj:bG x H p dp s
 cD:bw D H dp s.d
 apart:∀b,D b->¬x.all p b
 fi:¬D bt/\¬x.all p bt
def aA (F:Nat->Prop)(H:aa)(p dp:Nat)(s:Pl):Prop:=∃x D,bQ x D H p dp s/\∀b,F b↔D b\/x.all p b
theorem bQ.lt {x:PG}{D:Nat->Prop}{H:aa}{p dp:Nat}{s:Pl}(h:bQ x D H p dp s):∀b,D b\/x.all p b->b<H.size:=by
 rintro b (a|a)
 ·exact h.cD.lt b a
 ·exact h.aj.lt b a
theorem aA.lt {F:Nat->Prop}{H:aa}{p dp:Nat}{s:Pl}(h:aA F H p dp s):∀b,F b->b<H.size:=by
 obtain⟨x,D,g,a⟩:=h;exact λb c=>g.lt b ((a b).1 c)
theorem aA.ar {F:Nat->Prop}{H H':aa}{p dp:Nat}{s:Pl}(h:aA F H p dp s)(k:∀b,F b->b<H.size->H'[b]?=H[b]?):aA F H' p dp s:=by
 obtain⟨x,D,g,a⟩:=h;exact⟨x,D,⟨g.aj.ar λb c=>k b ((a b).2 (.inr c)),g.cD.ar λb c=>k b ((a b).2 (.inl c)),g.apart,g.fi⟩,a⟩
theorem aA.wf {F:Nat->Prop}{H:aa}{p dp:Nat}{s:Pl}(h:aA F H p dp s):s.WF:=by obtain⟨x,D,g,a⟩:=h;exact g.aj.wf
theorem aA.OT {F:Nat->Prop}{H:aa}{p dp:Nat}{s:Pl}(h:aA F H p dp s):s.d.WF:=by obtain⟨x,D,g,a⟩:=h;exact g.cD.wf
theorem Step.side {D a P:Nat->Prop}{H H':aa}(h:Step D a H H')(f:∀b,D b->¬P b)(hl:∀b,P b->b<H.size):(∀b,a b->¬P b)/\Step (λb=>D b\/P b) (λb=>a b\/P b) H H':=by
 refine⟨λb g c=>?_,h.mod.mono λb _ q=>.inl q,?_⟩
 ·rcases h.own b g with q|q
  ·exact f b q c
  ·have:=hl b c;omega
 ·rintro b (q|q)
  ·exact(h.own b q).imp .inl id
  ·exact .inl (.inr q)
theorem bQ.ks {x:PG}{D a:Nat->Prop}{H H':aa}{p dp:Nat}{s:Pl}{d:Dk}(c:Gl H)(h:bQ x D H p dp s)(hd:bw a H' dp d)(hs:Step D a H H'):
  bQ x a H' p dp (s.bJ d)/\Step (λb=>D b\/x.all p b) (λb=>a b\/x.all p b) H H':=by
 obtain⟨f,g⟩:=hs.side h.apart h.aj.lt;exact⟨⟨(h.aj.ar λb i hl=>hs.mod.same b hl λq=>h.apart b q i).bJ d,hd,f,λq=>by
  rcases hs.own _ q with r|r
  ·exact h.fi.1 r
  ·have:=c.lt;omega,h.fi.2⟩,g⟩
theorem bQ.js {x x':PG}{D:Nat->Prop}{H H':aa}{p dp:Nat}{s s':Pl}(g:Gl H)(h:bQ x D H p dp s)(i:bG x' H' p dp s')(hd:s'.d=s.d)(hm:Mod (x.all p) H H')(c:∀b,x'.fp b->x.fp b\/H.size<=b):
  bQ x' D H' p dp s'/\Step (λb=>D b\/x.all p b) (λb=>D b\/x'.all p b) H H':=by
 have hl:=h.cD.lt;refine⟨⟨i,by rw[hd];exact h.cD.ar λb a f=>hm.same b f (h.apart b a),?_,h.fi.1,?_⟩,hm.mono λb _ q=>.inr q,?_⟩
 ·rintro b a (q|q)
  ·exact h.apart b a (.inl q)
  ·rcases c b q with r|r
   ·exact h.apart b a (.inr r)
   ·have:=hl b a;omega
 ·rintro(q|q)
  ·exact h.fi.2 (.inl q)
  ·rcases c _ q with r|r
   ·exact h.fi.2 (.inr r)
   ·have:=g.lt;omega
 ·rintro b (q|q|q)
  ·exact .inl (.inl q)
  ·exact .inl (.inr (.inl q))
  ·exact(c b q).imp (λr=>.inr (.inr r)) id
theorem aA.fi {F:Nat->Prop}{H:aa}{p dp:Nat}{s:Pl}(h:aA F H p dp s):¬F bt:=by
 obtain⟨x,D,g,a⟩:=h;intro q;rcases (a _).1 q with r|r
 ·exact g.fi.1 r
 ·exact g.fi.2 r
theorem bQ.gl {x:PG}{D:Nat->Prop}{H H':aa}{p dp:Nat}{s:Pl}(a:Gl H)(h:bQ x D H p dp s)(hm:Mod (λb=>D b\/x.all p b) H H'):Gl H':=
 a.mod hm λr=>r.elim h.fi.1 h.fi.2
theorem bQ.out {x x':PG}{D a:Nat->Prop}{F:Nat->Prop}{H H':aa}{p dp:Nat}{s:Pl}(h:bQ x' a H' p dp s)(c:∀b,F b↔D b\/x.all p b)(hs:Step (λb=>D b\/x.all p b) (λb=>a b\/x'.all p b) H H'):
  ∃F',aA F' H' p dp s/\Step F F' H H':=
 ⟨λb=>a b\/x'.all p b,⟨x',a,h,λ_=>V4⟩,hs.mod.mono λb _ q=>(c b).2 q,λb f=>(hs.own b f).imp (c b).2 id⟩
end
section
open Go.MapKept
theorem jf {x:PG}{H:aa}{p dp:Nat}{s:Pl}{K:Int->aa->Prop}(h:bG x H p dp s)(a:K s.wrong H):Fz.sp (aK p) H K:=by
 refine Fz.of ?_;unfold Fz.vc;exact h.head.ld (c:=ab .i64) (i:=7) (x:=s.wrong) rfl a
theorem bG.tS {x:PG}{H H':aa}{p dp:Nat}{s s':Pl}(h:bG x H p dp s)(a:ao H' p Ed (pN dp x s'))(hm:Mod (λb=>b=p) H H')(c:s'.fs=s.fs)(hw:s'.WF):bG x H' p dp s':=
 ⟨a,h.ag.ar λb f hl=>hm.same b hl λe=>bG.off h.head h.ag (e▸f),c.trans h.fs,hw⟩
theorem w9 {x:PG}{D:Nat->Prop}{H:aa}{p dp:Nat}{s:Pl}{e:Int}{K:Int->aa->Prop}(u:Gl H)(h:bQ x D H p dp s)
  (o:∀H',bQ x D H' p dp (s.met e)->Step (λb=>D b\/x.all p b) (λb=>D b\/x.all p b) H H'->K e H'):wJ.sp (aK p) e H K:=by
 refine wJ.of ?_;unfold wJ.vc;simp only[aw];have hw:=h.aj.wf.met e;have a:bad e=true->st H (Ru ⟨p,0,none⟩ 7) (.int .i64 e) λH1=>K e H1:=by
  intro n;have em:s.met e={s with wrong:=e}:=by unfold Pl.met;rw[if_pos n]
  refine h.aj.head.st (i:=7) (by decide:7<8) (by rfl) λH' r m z=>?_;have y:bG x H' p dp (s.met e):=h.aj.tS (by rw[em];exact r) m (by rw[em]) hw;obtain⟨A,B⟩:=h.js u y (by rw[em]) (m.mono λb _ q=>.inl q) (λb q=>.inl q);exact o H' A B
 have g:bad e=false->K e H:=by
  intro n;have em:s.met e=s:=by unfold Pl.met;rw[n];rfl
  exact o H (by rw[em];exact h) (.refl _ _)
 refine ah (λc=>aR c (a (by simp[bad] at c ⊢;exact .inl (.inl c)))) (λc=>?_);refine ah (λf=>aR f (a (by simp[bad] at f ⊢;exact .inl (.inr f)))) (λf=>?_);refine ah (λj=>a (by simp[bad] at j ⊢;exact .inr j)) (λj=>g (by simp[bad] at c f j ⊢;exact⟨⟨c,f⟩,j⟩))
theorem vL {D:Nat->Prop}{H:aa}{p dp:Nat}{d:Dk}{g:uC}{f:Fr}{cs:Array gp}{K:Int->aa->Prop}(N:Gl H)(hd:bw D H dp d)(O:ao H p Ed cs)(B:cs[0]?=some (dt dp))
  (z:dK H g f) (a:f.b.length<=504) (C:∀b,g.fp b->¬D b) (o:d.aH<68719476736)
  (F:(d.write f.name f.page f.eO).2≠0->∀h H',bw h H' dp (d.write f.name f.page f.eO).1->Step D h H H'->K (d.write f.name f.page f.eO).2 H')
  (G:(d.write f.name f.page f.eO).2=0->∀h H1 j,bw h H1 dp (d.write f.name f.page f.eO).1->Step D h H H1->dK j g f.clean->Mod (λb=>b=g.p) H1 j->j.size=H1.size->K 0 j):
  Fx.sp (aK p) (aK g.p) H K:=by
 refine Fx.of ?_;unfold Fx.vc;simp only[aw,add_add,Wl];refine z.row.ld (c:=ab .u8) (i:=2) (x:=(f.kind.toNat:Int)) rfl ?_;refine z.row.ld (c:=aq) (i:=3) (x:=g.b) rfl ?_;refine Ki N (cg z.b) a λr H1 Q m1 f1=>aE rfl ?_;have p1:ao H1 p Ed cs:=O.ext m1;have u:dK H1 g f:=z.ar λb _ hl=>m1.same b hl id;have I:bw D H1 dp d:=hd.ar λb _ hl=>m1.same b hl id;refine p1.ld (c:=aB) (i:=0) (x:=aK dp) B ?_;refine u.row.ld (c:=aN) (i:=0) (x:=f.name) rfl ?_;refine u.row.ld (c:=ab .i64) (i:=1) (x:=(f.page:Int)) rfl ?_;have J:=hd.lt;refine HG I (cg Q) (λad R S=>?_) o λh j a2 A=>?_
 ·have:=f1 ad.block ⟨ad,R,rfl⟩;have:=J _ S;omega
 have y:Step D h H j:=⟨⟨QZ m1.size A.mod.size,λb a T=>(A.mod.same b (by have:=m1.size;omega) T).trans (m1.same b a id)⟩,λb a=>(A.own b a).imp id (λq=>QZ m1.size q)⟩;have m:dK j g f:=u.ar λb a hl=>A.mod.same b hl (C b a);show br ((d.write f.name f.page f.eO).2==0) _ _;refine ah (λL=>?_) (λL=>?_)
 ·have n:(d.write f.name f.page f.eO).2=0:=by simpa using L
  refine m.row.st (i:=4) (by decide:4<7) (by rfl) λM U m3 z3=>?_;have:=G n h j M a2 y ⟨U,m.b.ar λb a hl=>m3.same b hl λe=>?_⟩ m3 z3
  ·show K (d.write f.name f.page f.eO).2 M;rw[n];exact this
  ·obtain⟨c,q⟩:=m.b.obj b a;rw[e] at q;exact absurd (aM m.row q) (by decide)
 ·have n:(d.write f.name f.page f.eO).2≠0:=by simpa using L
  exact F n h j a2 y
theorem Db {x:PG}{D:Nat->Prop}{H:aa}{p dp:Nat}{s:Pl}{i:Nat}{f:Fr}{g:uC}{K:Int->aa->Prop}(A:Gl H)(h:bQ x D H p dp s)(C:x.zs[i]?=some (f,g))(q:s.d.aH<68719476736)
  (j:(s.put i).2≠0->∀m H',bQ x m H' p dp (s.put i).1->Step (λb=>D b\/x.all p b) (λb=>m b\/x.all p b) H H'->K (s.put i).2 H')
  (n:(s.put i).2=0->∀m H',bQ {x with zs:=x.zs.set i (f.clean,g)} m H' p dp (s.put i).1->Step (λb=>D b\/x.all p b) (λb=>m b\/PG.all {x with zs:=x.zs.set i (f.clean,g)} p b) H H'->K 0 H'):
  Fx.sp (aK p) (aK g.p) H K:=by
 have o:=QL C;have c:s.fs[i]?=some f:=by rw[h.aj.fs];simp[PG.fs,C]
 have F:=Pl.fZ c;have N:=h.aj.ag.each _ o;unfold Pl.put at j n;rw[F] at j n;refine vL (f:=f) (d:=s.d) A h.cD h.aj.head rfl N (h.aj.wf.room f (QL c)) (λb y O=>h.apart b O (.inr (.inr (.inr ⟨_,o,y⟩)))) q (λz m H' a S=>?_) (λhe m H1 G a S I m2 z2=>?_)
 ·rw[if_neg z] at j;obtain⟨u,B⟩:=h.ks A a S;exact j z m H' u B
 ·rw[if_pos he] at n;obtain⟨u,B⟩:=h.ks A a S;have J:Gl H1:=h.gl A B.mod;have L:∀b,g.fp b->x.all p b:=λb y=>.inr (.inr (.inr ⟨_,o,y⟩));obtain⟨t1,t2⟩:=u.aj.ag.dz (H':=G) (z':=(f.clean,g)) C rfl rfl rfl rfl I (λb _ Q hl=>m2.same b hl λe=>Q (e▸.inl rfl)) (λb y=>.inl y);have M:bG {x with zs:=x.zs.set i (f.clean,g)} G p dp ((s.bJ (s.d.write f.name f.page f.eO).1).dz i Fr.clean):=by
   refine⟨m2.at u.aj.head λe=>bG.off u.aj.head u.aj.ag (e▸.inr (.inr ⟨_,o,.inl rfl⟩)),t1,?_,?_⟩
   ·show s.fs.modify i Fr.clean=(x.zs.set i (f.clean,g)).map (·.1);rw[bm c,h.aj.fs];simp[PG.fs,R9]
   ·exact(h.aj.wf.bJ _).dz c rfl rfl rfl (h.aj.wf.room f (QL c))
  obtain⟨R,T⟩:=u.js J M rfl (m2.mono λb _ e=>L b (.inl e)) t2;exact n rfl m G R (B.trans T)
theorem aS.ptr {H:aa}{x:PG}(h:aS H x){z z':FZ}(f:z∈x.zs)(b:z'∈x.zs)(e:z.2.p=z'.2.p):z=z':=by
 obtain⟨i,hi⟩:=QU.1 f;obtain⟨j,c⟩:=QU.1 b;by_cases a:i=j
 ·subst a;rw[hi] at c;exact Rc c
 ·exact absurd (.inl e) (h.apart i j z z' hi c a z.2.p (.inl rfl))
theorem aS.entry {H:aa}{x:PG}(h:aS H x){e:nW}(he:e∈x.ef.toList):∃z∈x.zs,e.key=jI z.1.name (z.1.page:Int)/\e.val=dt z.2.p:=by
 have:=(h.entF e.key e.val).1 ⟨e,he,rfl,rfl⟩;obtain⟨z,a,q⟩:=QW.1 this;simp only[RJ] at q;exact⟨z,a,q.1.symm,q.2.symm⟩
theorem aS.Dq {H:aa}{x:PG}(h:aS H x){z:FZ}(a:z∈x.zs):∃e∈x.ef.toList,e.key=jI z.1.name (z.1.page:Int)/\e.val=dt z.2.p:=by
 obtain⟨e,he,h1,b⟩:=(h.entF _ _).2 (QW.2 ⟨z,a,rfl⟩);exact⟨e,he,h1,b⟩
def Ox (x:PG)(l:List nW)(b:Option hY):Prop:=
 match b with
 |none=>∀e∈l,∀z∈x.zs,e.val=dt z.2.p->z.1.pins≠[]
 |some a=>∃z∈x.zs,a=⟨z.2.p,0,none⟩/\z.1.pins=[]/\∀e∈l,∀z'∈x.zs,e.val=dt z'.2.p->z'.1.pins=[]->z.1.left<=z'.1.left
theorem nL:∃(et:ic) (inf:pa),QH.underlying zv=some (.map yn et)/\QH.info? et=some inf/\inf.zero=some (.pointer none):=by
 obtain⟨D,a⟩:=Option.isSome_iff_exists.1 (by kernel_rfl:(QH.underlying yn).isSome=true);obtain⟨et,inf,h1,_,b,c⟩:=tJ (P:=QH) (t:=zv) (kt:=yn) (by kernel_rfl) a;exact⟨et,inf,h1,b,c⟩
theorem HJ {x:PG}{H:aa}{p dp:Nat}{s:Pl}{K:Option hY->aa->Prop}(h:bG x H p dp s)(hN:s.ky=none->∀H',Ext H H'->K none H')
  (hS:∀i f g,s.ky=some i->x.zs[i]?=some (f,g)->∀H',Ext H H'->K (aK g.p) H'):K8.sp (aK p) H K:=by
 refine K8.of ?_;unfold K8.vc;simp only[aw];refine h.head.ld (c:=cd) (i:=2) (x:=some x.mf) rfl ?_;obtain⟨et,inf,hu,_⟩:=nL;have O:=h.ag;refine pk hu O.fmap λH1 T X=>?_;have a1:=aI T;have U:aS H1 x:=O.ar λb _ hl=>X.same b hl id;refine pq (it:=H.size) (λl b A=>Ox x l b/\Mod (λk=>k=H.size) H1 A) U.fmap T ⟨(by intro e he;cases he),.refl _ _⟩ (λl b A A' q m _=>⟨q.1,q.2.trans m⟩) ?_ ?_
 ·rintro l e b A next ⟨Q,M⟩ he _ _ _ _ _ B
  obtain⟨z,R,_,S⟩:=O.entry he;have hA:aS A x:=U.ar λc Y hl=>M.same c hl λq=>by have:=O.lt c Y;omega
  have V:=hA.each z R;refine⟨aK z.2.p,by rw[S];rfl,?_⟩;refine Jh.of ?_;unfold Jh.vc;simp only[aw];refine V.row.ld (c:=ab .i64) (i:=5) (x:=(z.1.pins.length:Int)) rfl ?_;have same:∀z'∈x.zs,e.val=dt z'.2.p->z'=z:=λz' o n=>O.ptr o R (by rw[S] at n;exact(ub n).symm);refine ah (λN=>?_) (λN=>?_)
  ·have D:z.1.pins=[]:=by
    have:(z.1.pins.length:Int)=0:=by simpa using N
    exact Ra (by omega)
   cases b with
   |none=>
     refine aR rfl (B _ _ ⟨⟨z,R,rfl,D,?_⟩,M⟩ rfl rfl);intro J C z' o n u;rcases QQ.1 C with q|q
     ·exact absurd u (Q J q z' o n)
     ·simp at q;subst q;rw[same z' o n];exact TG _
   |some a=>
     obtain⟨y,W,rfl,hyp,L⟩:=Q;have Z:=hA.each y W;refine aE rfl ?_;refine Kj.of ?_;unfold Kj.vc;simp only[aw];refine V.row.ld (c:=ab .i64) (i:=6) (x:=z.1.left) rfl ?_;refine Z.row.ld (c:=ab .i64) (i:=6) (x:=y.1.left) rfl ?_;refine ah (λF=>?_) (λF=>?_)
     ·have F:z.1.left<y.1.left:=by simpa using F
      refine B _ _ ⟨⟨z,R,rfl,D,?_⟩,M⟩ rfl rfl;intro J C z' o n u;rcases QQ.1 C with q|q
      ·have:=L J q z' o n u;omega
      ·simp at q;subst q;rw[same z' o n];exact TG _
     ·have F:¬z.1.left<y.1.left:=by simpa using F
      refine B _ _ ⟨⟨y,W,rfl,hyp,?_⟩,M⟩ rfl rfl;intro J C z' o n u;rcases QQ.1 C with q|q
      ·exact L J q z' o n u
      ·simp at q;subst q;rw[same z' o n];omega
  ·have D:z.1.pins≠[]:=by
    intro q;rw[q] at N;simp at N
   refine B _ _ ⟨?_,M⟩ rfl rfl;cases b with
   |none=>
     intro J C z' o n;rcases QQ.1 C with q|q
     ·exact Q J q z' o n
     ·simp at q;subst q;rw[same z' o n];exact D
   |some a=>
     obtain⟨y,W,rfl,hyp,L⟩:=Q;refine⟨y,W,rfl,hyp,?_⟩;intro J C z' o n u;rcases QQ.1 C with q|q
     ·exact L J q z' o n u
     ·simp at q;subst q;rw[same z' o n] at u;exact absurd u D
 ·rintro l b A ⟨Q,M⟩ G _;have hE:Ext H A:=⟨by have:=X.size;have:=M.size;omega,λc Y _=>(M.same c (by omega) (by omega)).trans (X.same c Y id)⟩;cases b with
  |none=>
    refine hN ?_ A hE;cases hb:s.ky with
    |none=>rfl
    |some i=>
      obtain⟨f,hf,N,_⟩:=Pl.jZ hb;obtain⟨g,hg,_⟩:=h.at hf;have I:=QL hg;obtain⟨e,he,_,S⟩:=O.Dq I;exact absurd N (Q e (G.mem_iff.2 he) _ I S)
  |some a=>
    obtain⟨z,R,rfl,N,hl⟩:=Q;obtain⟨i,hi⟩:=QU.1 R;have af:s.fs[i]?=some z.1:=by rw[h.fs];simp[PG.fs,hi]
    refine hS i z.1 z.2 (Pl.Jx h.wf af N λf' al u=>?_) hi A hE;obtain⟨j,hj⟩:=QU.1 al;obtain⟨g',an,_⟩:=h.at hj;have I:=QL an;obtain⟨e,he,_,S⟩:=O.Dq I;exact hl e (G.mem_iff.2 he) _ I S u
end
section
open Go.MapKept
theorem nu {α β:Type}(u:α->β):∀(l:List α) (i:Nat),(l.eraseIdx i).map u=(l.map u).eraseIdx i
 |[],i=>by simp
 |a::l,0=>by simp
 |a::l,i+1=>by simp[nu u l i]
theorem dK.C5 {H:aa}{g:uC}{f:Fr}{K:(ByteArray×Int)->Prop}(h:dK H g f)(a:K (f.name,(f.page:Int))):cN (bR [aN,(ab .i64)]) 2 H (Ru ⟨g.p,0,none⟩ 0) K:=by
 refine⟨(f.name,(f.page:Int)),?_,a⟩;refine ao.lX (o:=0) (ds:=#[.string f.name,.int .i64 (f.page:Int)]) h.row rfl λi hi=>?_;have:i=0\/i=1:=by omega
 rcases this with rfl|rfl<;>rfl
theorem bG.Oo {x:PG}{H:aa}{p dp:Nat}{s:Pl}{K:Nat->Prop}(h:bG x H p dp s)(a:K s.fs.length):Ct H (some x.mf) K:=
 ⟨s.fs.length,⟨x.ef,x.cf,h.ag.fmap.obj,h.n⟩,a⟩
theorem Pl.WF.key {s:Pl}(h:s.WF){i:Nat}{f:Fr}(a:s.fs[i]?=some f):xm QH yn (jI f.name (f.page:Int)):=by
 have:=h.az f (QL a);exact qV this.2 (by omega) (by omega)
theorem Bb {x:PG}{D:Nat->Prop}{H:aa}{p dp:Nat}{s:Pl}{i:Nat}{f:Fr}{g:uC}{ty:ic}{K:gp->aa->Prop}(A:Gl H)(h:bQ x D H p dp s)(y:x.zs[i]?=some (f,g))(B:f.pins=[])
  (C:∀a v H',bQ {x with zs:=x.zs.eraseIdx i,ef:=a} D H' p dp (s.drop i)->Step (λb=>D b\/x.all p b) (λb=>D b\/PG.all {x with zs:=x.zs.eraseIdx i,ef:=a} p b) H H'->Mod (λb=>b=x.mf) H H'->K v H'):
  bf gR QH (Sj #[zv,yn] ty #[.map (some x.mf),(.agg #[.string f.name,.int .i64 (f.page:Int)])]) H K:=by
 have m:s.fs[i]?=some f:=by rw[h.aj.fs];simp[PG.fs,y]
 obtain⟨et,inf,hu,_⟩:=nL;have c:=h.aj.wf.key m;refine yB (k:=jI f.name (f.page:Int)) hu xK h.aj.ag.fmap c λa H' F it G j z'=>?_;have I:=h.aj.ag.erase y B (by have:=h.aj.wf.keys;rw[h.aj.fs] at this;exact this) F it G (λb _ n hl=>j.same b hl n);have o:p≠x.mf:=λe=>bG.off h.aj.head h.aj.ag (.inl e);have q:bG {x with zs:=x.zs.eraseIdx i,ef:=a} H' p dp (s.drop i):=by
  refine⟨j.at h.aj.head o,I,?_,h.aj.wf.drop i⟩;show s.fs.eraseIdx i=(x.zs.eraseIdx i).map (·.1);rw[h.aj.fs,nu];rfl
 obtain⟨J,L⟩:=h.js A q rfl (j.mono λb _ e=>.inr (.inl e)) (by
  rintro b (e|e|⟨z,u,M⟩)
  ·exact .inl (.inl e)
  ·exact .inl (.inr (.inl e))
  ·exact .inl (.inr (.inr ⟨z,Se u,M⟩)))
 exact C a _ H' J L j
theorem CZ {x:PG}{D:Nat->Prop}{H:aa}{p dp:Nat}{s:Pl}{K:Int->aa->Prop}(Z:Gl H)(h:bQ x D H p dp s)(m:s.d.aH<68719476736)
  (a:∀x' u H',bQ x' u H' p dp s.room.1->Step (λb=>D b\/x.all p b) (λb=>u b\/x'.all p b) H H'->K s.room.2 H'):Jv.sp (aK p) H K:=by
 refine Jv.of ?_;unfold Jv.vc;simp only[aw];refine h.aj.head.ld (c:=cd) (i:=2) (x:=some x.mf) rfl ?_;refine h.aj.Oo ?_;refine h.aj.head.ld (c:=ab .i64) (i:=1) (x:=(s.most:Int)) rfl ?_;refine ah (λJ=>?_) (λJ=>?_)
 ·have e:s.room=(s,0):=by unfold Pl.room;rw[if_pos (by simpa using J)]
  rw[e] at a;exact a x D H h (.refl _ _)
 have hlen:¬s.fs.length<s.most:=by simpa using J
 refine HJ h.aj (λhN H1 j=>?_) (λi f g X y H1 j=>?_)
 ·have e:s.room=(s,31):=by unfold Pl.room;rw[if_neg hlen,hN]
  rw[e] at a;refine aR rfl (a x D H1 ⟨h.aj.ar λb _ hl=>j.same b hl id,h.cD.ar λb _ hl=>j.same b hl id,h.apart,h.fi⟩ ⟨Ext.mod j,λb q=>.inl q⟩)
 ·have h1:bQ x D H1 p dp s:=⟨h.aj.ar λb _ hl=>j.same b hl id,h.cD.ar λb _ hl=>j.same b hl id,h.apart,h.fi⟩;have L:Step (λb=>D b\/x.all p b) (λb=>D b\/x.all p b) H H1:=⟨Ext.mod j,λb q=>.inl q⟩;have n:Gl H1:=Z.mod j id;have M:=QL y;have z:s.fs[i]?=some f:=by rw[h.aj.fs];simp[PG.fs,y]
  have N:=Pl.fZ z;obtain⟨f0,A,B,_⟩:=Pl.jZ X;rw[z] at A;cases A;have Y:=h1.aj.ag.each _ M;refine aE rfl ?_;simp only[aw];refine Y.row.ld (c:=aC) (i:=4) (x:=f.dirty) rfl ?_;have o:s.room=(if f.dirty then (if (s.put i).2=0 then ((s.put i).1.drop i,0) else s.put i) else (s.drop i,0)):=by
   unfold Pl.room;rw[if_neg hlen,X];simp only[N]
  cases hd:f.dirty with
  |true=>
    rw[hd,if_pos rfl] at o;refine aR rfl ?_;refine Db n h1 y m (λC u O F I=>?_) (λhe u O F I=>?_)
    ·rw[if_neg C] at o;rw[o] at a;exact aR (by simpa using C) (a x u O F (L.trans I))
    ·rw[if_pos he] at o;rw[o] at a;refine aE rfl ?_;have Q:=(QJ.1 y).1;have G:(x.zs.set i (f.clean,g))[i]?=some (f.clean,g):=by simp[Q]
     have R:=F.aj.ag.each _ (QL G);refine F.aj.head.ld (c:=cd) (i:=2) (x:=some x.mf) rfl ?_;refine dK.C5 R ?_;have S:Gl O:=h1.gl n I.mod;refine Bb (x:={x with zs:=x.zs.set i (f.clean,g)}) S F G B λT v U V W _=>?_;exact a _ u U V ((L.trans I).trans W)
  |false=>
    rw[hd,if_neg (by simp)] at o;rw[o] at a;refine aE rfl ?_;refine h1.aj.head.ld (c:=cd) (i:=2) (x:=some x.mf) rfl ?_;refine dK.C5 Y ?_;refine Bb n h1 y B λT v U V W _=>?_;exact a _ D U V (L.trans W)
theorem sW:Hl QH Oc jm (.int .i64):=tJ (by kernel_rfl) (by kernel_rfl)
theorem xd {h:Int}:∀(zs:List FZ) (i:Nat) (f:Fr) (g:uC),zs[i]?=some (f,g)->∀k v,(k,v)∈xH (zs.set i (Fr.bF h f,g))↔(k,v)∈xH zs\/(k=.int .i64 h/\v=dt g.p)
 |[],i,f,g,e,k,v=>by simp at e
 |a::l,0,f,g,e,k,v=>by
   simp at e;subst e;simp only[Tq,xH,RC,QQ,NY,Fr.bF,Rm,Q7,TD,Q1,RJ];constructor
   ·rintro((q|q)|q)
    ·exact .inl (.inl q)
    ·exact .inr q
    ·exact .inl (.inr q)
   ·rintro((q|q)|q)
    ·exact .inl (.inl q)
    ·exact .inr q
    ·exact .inl (.inr q)
 |a::l,i+1,f,g,e,k,v=>by
   have b:=xd (h:=h) l i f g (by simpa using e) k v;simp only[VG,xH,RC,QQ] at b ⊢;rw[b,or_assoc]
theorem Ha {x:PG}{D:Nat->Prop}{H:aa}{p dp:Nat}{s:Pl}{i:Nat}{f:Fr}{g:uC}{K:Int->aa->Prop}(Z:Gl H)(h:bQ x D H p dp s)(J:x.zs[i]?=some (f,g))(hn:s.next<9223372036854775807)
  (L:(s.iG i).WF) (af:(f.pins.length:Int)<9223372036854775807)
  (hK:∀x' H',bQ x' D H' p dp (s.iG i)->Step (λb=>D b\/x.all p b) (λb=>D b\/x'.all p b) H H'->K s.next H'):HF.sp (aK p) (aK g.p) H K:=by
 refine HF.of ?_;unfold HF.vc;simp only[aw];have j:=QL J;have M:s.fs[i]?=some f:=by rw[h.aj.fs];simp[PG.fs,J]
 have n:=h.aj.ag.each _ j;refine n.row.ld (c:=ab .i64) (i:=5) (x:=(f.pins.length:Int)) rfl ?_;refine n.row.st (i:=5) (by decide:5<7) (by rfl) λH1 r1 m1 z1=>?_;have o:p≠g.p:=λe=>bG.off h.aj.head h.aj.ag (e▸.inr (.inr ⟨_,j,.inl rfl⟩));have m:ao H1 p Ed (pN dp x s):=m1.at h.aj.head o;refine m.ld (c:=cd) (i:=3) (x:=some x.mh) rfl ?_;refine m.ld (c:=ab .i64) (i:=4) (x:=s.next) rfl ?_;obtain⟨et,inf,hu,hd,al,an⟩:=sW;have y:=h.aj.ag.off j;have A:g.p≠x.mh:=λe=>y.2 (.inl e.symm);have N:ct (.int .i64) H1 x.mh x.eh x.ch:=h.aj.ag.hmap.ar (m1.same _ h.aj.ag.hmap.lt (λe=>A e.symm));have O:∀u,¬fw x.eh (.int .i64 s.next) u:=by
  intro u Q;have:=(h.aj.ag.entH _ _).1 Q;obtain⟨z,R,hk⟩:=Sm.1 this;obtain⟨q,S,e⟩:=QW.1 hk;simp only[RJ,VI,true_and] at e;have T:z.1∈s.fs:=by rw[h.aj.fs];exact QW.2 ⟨z,R,rfl⟩
  have:=(h.aj.wf.old _ T _ S).2;omega
 refine oJ hu hd N (k:=.int .i64 s.next) (show QI=QI from rfl) O λH2 B m2 z2=>?_;have C:p≠x.mh:=λe=>bG.off h.aj.head h.aj.ag (.inr (.inl e));have F:ao H2 p Ed (pN dp x s):=m2.at m C;refine F.ld (c:=ab .i64) (i:=4) (x:=s.next) rfl ?_;refine F.st (i:=4) (by decide:4<8) (by rfl) λG X m3 z3=>?_;refine X.ld (c:=ab .i64) (i:=4) (x:=fT (s.next+1)) rfl ?_;have ht:=h.aj.wf.tick;have hw:fT (s.next+1)=s.next+1:=by unfold fT;exact wrap64 (by omega) (by omega)
 have er:QI.wrap (fT (s.next+1) - 1)=s.next:=by
  have e1:fT (s.next+1) - 1=s.next:=by omega
  rw[e1];exact wrap64 (by omega) (by omega)
 rw[er];have a:Mod (λb=>b=g.p\/b=x.mh\/b=p) H G:=((m1.mono λb _ e=>.inl e).trans (m2.mono λb _ e=>.inr (.inl e))).trans (m3.mono λb _ e=>.inr (.inr e));have ew:QI.wrap ((f.pins.length:Int)+1)=(((Fr.bF s.next f).pins.length:Nat):Int):=by
  rw[wrap64 (by omega) (by omega)];simp[Fr.bF]
 have S:dK G g (Fr.bF s.next f):=by
  refine⟨?_,n.b.ar λb I hl=>a.same b hl ?_⟩
  ·have:=m3.at (m2.at r1 A) (λe=>o e.symm);rw[ew] at this;exact this
  ·obtain⟨c,q⟩:=n.b.obj b I;rintro(e|e|e)
   ·rw[e] at q;exact absurd (aM n.row q) (by decide)
   ·rw[e,h.aj.ag.hmap.obj] at q;cases q
   ·rw[e] at q;exact absurd (aM h.aj.head q) (by decide)
 have Y:=h.aj.ag.set (H':=G) (z':=(Fr.bF s.next f,g)) J rfl rfl rfl S (B.ar (m3.same _ B.lt (λe=>C e.symm))) (λk v=>by
  rw[iR,h.aj.ag.entH,xd x.zs i f g J];exact V4) (λb I U V hl=>a.same b hl (by
   rintro(e|e|e)
   ·exact U (.inl e)
   ·exact V e
   ·exact bG.off h.aj.head h.aj.ag (e▸I))) (λb I=>.inl I)
 have W:bG {x with zs:=x.zs.set i (Fr.bF s.next f,g),eh:=x.eh.push {key:=.int .i64 s.next,val:=dt g.p,born:=x.ch},ch:=x.ch+1} G p dp (s.iG i):=by
  refine⟨X,Y.1,?_,L⟩;show s.fs.modify i (Fr.bF s.next)=(x.zs.set i (Fr.bF s.next f,g)).map (·.1);rw[bm M,h.aj.fs];simp[PG.fs,R9]
 obtain⟨q1,q2⟩:=h.js Z W rfl (a.mono λb _ e=>by
  rcases e with e|e|e
  ·exact .inr (.inr (.inr ⟨_,j,.inl e⟩))
  ·exact .inr (.inr (.inl e))
  ·exact .inl e) Y.2
 exact hK _ G q1 q2
end
section
open Go.MapKept
structure GF (x:PG)(D:Nat->Prop)(H:aa)(p:Nat)(g:uC)(f:Fr):Prop where
 fr:dK H g f
 off:∀b,g.fp b->¬D b/\¬x.all p b/\b≠bt
theorem De {x:PG}{D:Nat->Prop}{H:aa}{p dp:Nat}{s:Pl}{f:Fr}{g:uC}{K:Int->aa->Prop}(hg:Gl H)(h:bQ x D H p dp s)(hN:GF x D H p g f)
  (hl:s.fs.length<s.most) (hn:s.next<9223372036854775807) (hk:s.find f.name f.page=none) (n:f.b.length<=504) (bb:f.page<1048577) (Y:f.name.size<=9223372036854775807) (hp:f.pins=[]) (bd:f.left=0)
  (hK:∀x' H',bQ x' D H' p dp (s.take f)->Step (λb=>(D b\/x.all p b)\/g.fp b) (λb=>D b\/x'.all p b) H H'->K s.next H'):EX.sp (aK p) (aK g.p) H K:=by
 refine EX.of ?_;unfold EX.vc;simp only[aw];have hw:=h.aj.wf.take hl hn hk n bb Y hp bd;have hlen:=h.aj.wf.len;have bh:=h.aj.wf.most;refine h.aj.head.ld (c:=cd) (i:=2) (x:=some x.mf) rfl ?_;refine dK.C5 hN.fr ?_;obtain⟨et,inf,hu,_⟩:=nL;have bl:∀u,¬fw x.ef (jI f.name (f.page:Int)) u:=by
  intro u C;obtain⟨z,U,e⟩:=QW.1 ((h.aj.ag.entF _ _).1 C);simp only[RJ] at e;have:=mP e.1;have L:z.1∈s.fs:=by rw[h.aj.fs];exact QW.2 ⟨z,U,rfl⟩
  exact Pl.qE hk _ L this.1 this.2
 refine yP (k:=jI f.name (f.page:Int)) hu xK h.aj.ag.fmap (qV Y (by omega) (by omega)) bl λH1 Z m1 z1=>?_;have af:p≠x.mf:=λe=>bG.off h.aj.head h.aj.ag (.inl e);have M:ao H1 p Ed (pN dp x s):=m1.at h.aj.head af;refine M.ld (c:=ab .i64) (i:=6) (x:=(s.peak:Int)) rfl ?_;refine M.ld (c:=cd) (i:=2) (x:=some x.mf) rfl ?_;have bn:=h.aj.n;refine⟨s.fs.length+1,⟨_,_,Z.obj,by simp[bn]⟩,?_⟩;have ep:(if ((s.fs.length+1:Nat):Int)>(s.peak:Int) then ((s.fs.length+1:Nat):Int) else (s.peak:Int))=((max s.peak (s.fs.length+1):Nat):Int):=by
  split<;>omega
 simp only[ep];refine M.st (i:=6) (by decide:6<8) (by rfl) λV r2 m2 z2=>?_;have m:=hN.off;have o:Mod (λb=>b=x.mf\/b=p) H V:=(m1.mono λb _ e=>.inl e).trans (m2.mono λb _ e=>.inr e);have A:dK V g f:=hN.fr.ar λb n hl=>o.same b hl (by
  rintro(e|e)
  ·exact(m b n).2.1 (.inr (.inl e))
  ·exact(m b n).2.1 (.inl e))
 -- the frame is pushed
 obtain⟨B,N⟩:∃e:Array nW,e=x.ef.push {key:=jI f.name (f.page:Int),val:=dt g.p,born:=x.cf}:=⟨_,rfl⟩;have y:∀(i:Nat) (z:FZ),x.zs[i]?=some z->∀b,z.2.fp b->¬g.fp b:=λi z U b n bs=>(m b bs).2.1 (.inr (.inr (.inr ⟨z,QL U,n⟩)));have W:aS V {x with zs:=x.zs++[(f,g)],ef:=B,cf:=x.cf+1}:=by
  have F0:=h.aj.ag;have al:=bG.off h.aj.head h.aj.ag;have old:∀u∈x.zs,dK V u.2 u.1:=λu hu=>(F0.each u hu).ar λb n hl=>o.same b hl (by
   rintro(e|e)
   ·exact(F0.off hu).1 (e▸n)
   ·exact al (e▸.inr (.inr ⟨u,hu,n⟩)))
  refine⟨?_,F0.hmap.ar (o.same _ F0.hmap.lt (by
   rintro(e|e)
   ·exact F0.ne e.symm
   ·exact al (e▸.inr (.inl rfl)))),F0.ne,by rw[N];simp[F0.size],?_,?_,?_,?_⟩
  ·have:=Z.mod m2 (λe=>af e.symm);rw[N];exact this
  ·intro k v;rw[BI,QQ,N,iR,F0.entF k v];simp[qx]
  ·intro k v;rw[BL,F0.entH k v];simp[xH,CQ (z:=(f,g)) hp]
  ·intro u hu;rcases QQ.1 hu with q|q
   ·exact old u q
   ·simp at q;subst q;exact A
  ·intro i j u v h1 h2 bx b O Q;have ex:∀(i:Nat) (u:FZ),(x.zs++[(f,g)])[i]?=some u->(x.zs[i]?=some u)\/(i=x.zs.length/\u=(f,g)):=by
    intro i u h1;by_cases hi:i<x.zs.length
    ·rw[Rf hi] at h1;exact .inl h1
    ·rw[RK (by omega)] at h1;have:i=x.zs.length:=by
      have:=(QJ.1 h1).1;simp at this;omega
     subst this;simp at h1;exact .inr ⟨rfl,h1.symm⟩
   rcases ex i u h1 with q1|⟨e1,rfl⟩<;>rcases ex j v h2 with q2|⟨e2,rfl⟩
   ·exact F0.apart i j u v q1 q2 bx b O Q
   ·exact y i u q1 b O Q
   ·exact y j v q2 b Q O
   ·omega
 -- what holds in between
 have b0:(s.add f).fs.length<=s.most:=by simp[Pl.add];omega
 have R:ao V p Ed (pN dp {x with zs:=x.zs++[(f,g)],ef:=B,cf:=x.cf+1} (s.add f)):=r2;have U:(x.zs++[(f,g)])[x.zs.length]?=some (f,g):=by simp
 have b1:x.zs.length=s.fs.length:=by rw[h.aj.fs];simp[PG.fs]
 -- the pin, over the blocks themselves
 refine HF.of ?_;unfold HF.vc;simp only[aw];have b2:((f,g):FZ)∈x.zs++[(f,g)]:=by simp
 refine A.row.ld (c:=ab .i64) (i:=5) (x:=(f.pins.length:Int)) rfl ?_;refine A.row.st (i:=5) (by decide:5<7) (by rfl) λH3 r3 m3 z3=>?_;have G:p≠g.p:=λe=>(m g.p (.inl rfl)).2.1 (.inl e.symm);have S:ao H3 p Ed (pN dp {x with zs:=x.zs++[(f,g)],ef:=B,cf:=x.cf+1} (s.add f)):=m3.at R G;refine S.ld (c:=cd) (i:=3) (x:=some x.mh) rfl ?_;refine S.ld (c:=ab .i64) (i:=4) (x:=s.next) rfl ?_;obtain⟨b3,bO,C,bA,_,_⟩:=sW;have an:g.p≠x.mh:=λe=>(m g.p (.inl rfl)).2.1 (.inr (.inr (.inl e)));have bB:ct (.int .i64) H3 x.mh x.eh x.ch:=W.hmap.ar (m3.same _ W.hmap.lt (λe=>an e.symm));have a1:∀u,¬fw x.eh (.int .i64 s.next) u:=by
  intro u C;have:=(h.aj.ag.entH _ _).1 C;obtain⟨z,bC,hk⟩:=Sm.1 this;obtain⟨q,hq,e⟩:=QW.1 hk;simp only[RJ,VI,true_and] at e;have L:z.1∈s.fs:=by rw[h.aj.fs];exact QW.2 ⟨z,bC,rfl⟩
  have:=(h.aj.wf.old _ L _ hq).2;omega
 refine oJ C bA bB (k:=.int .i64 s.next) (show QI=QI from rfl) a1 λH4 a6 m4 z4=>?_;have I:p≠x.mh:=λe=>bG.off h.aj.head h.aj.ag (.inr (.inl e));have a7:ao H4 p Ed (pN dp {x with zs:=x.zs++[(f,g)],ef:=B,cf:=x.cf+1} (s.add f)):=m4.at S I;refine a7.ld (c:=ab .i64) (i:=4) (x:=s.next) rfl ?_;refine a7.st (i:=4) (by decide:4<8) (by rfl) λX r5 m5 z5=>?_;refine r5.ld (c:=ab .i64) (i:=4) (x:=fT (s.next+1)) rfl ?_;have ht:=h.aj.wf.tick;have b4:fT (s.next+1)=s.next+1:=by unfold fT;exact wrap64 (by omega) (by omega)
 have er:QI.wrap (fT (s.next+1) - 1)=s.next:=by
  have e1:fT (s.next+1) - 1=s.next:=by omega
  rw[e1];exact wrap64 (by omega) (by omega)
 rw[er];have F:Mod (λb=>b=g.p\/b=x.mh\/b=p) V X:=((m3.mono λb _ e=>.inl e).trans (m4.mono λb _ e=>.inr (.inl e))).trans (m5.mono λb _ e=>.inr (.inr e));have hq:dK X g (Fr.bF s.next f):=by
  refine⟨?_,A.b.ar λb n hl=>F.same b hl ?_⟩
  ·have:=m5.at (m4.at r3 an) (λe=>G e.symm);have e0:QI.wrap (((f.pins.length:Nat):Int)+1)=(((Fr.bF s.next f).pins.length:Nat):Int):=by
    rw[hp];simp[Fr.bF,hp];rfl
   rw[e0] at this;exact this
  ·obtain⟨c,q⟩:=A.b.obj b n;rintro(e|e|e)
   ·rw[e] at q;exact absurd (aM A.row q) (by decide)
   ·rw[e,W.hmap.obj] at q;cases q
   ·rw[e] at q;exact absurd (aM R q) (by decide)
 have bD:=W.set (H':=X) (z':=(Fr.bF s.next f,g)) U rfl rfl rfl hq (a6.ar (m5.same _ a6.lt (λe=>I e.symm))) (λk v=>by
  rw[iR,W.entH,xd _ x.zs.length f g U];exact V4) (λb n bM bN hl=>F.same b hl (by
   rintro(e|e|e)
   ·exact bM (.inl e)
   ·exact bN e
   ·exact bG.off R W (e▸n))) (λb n=>.inl n)
 have a8:bG {x with zs:=(x.zs++[(f,g)]).set x.zs.length (Fr.bF s.next f,g),ef:=B,cf:=x.cf+1,eh:=x.eh.push {key:=.int .i64 s.next,val:=dt g.p,born:=x.ch},ch:=x.ch+1} X p dp (s.take f):=by
  refine⟨r5,bD.1,?_,hw⟩;show (s.fs++[f]).modify s.fs.length (Fr.bF s.next)=((x.zs++[(f,g)]).set x.zs.length (Fr.bF s.next f,g)).map (·.1);rw[bm (a:=f) (by simp),h.aj.fs];simp[PG.fs]
 have J:Mod (λb=>x.all p b\/g.fp b) H X:=by
  refine(o.mono λb _ e=>?_).trans (F.mono λb _ e=>?_)
  ·rcases e with e|e
   ·exact .inl (.inr (.inl e))
   ·exact .inl (.inl e)
  ·rcases e with e|e|e
   ·exact .inr (.inl e)
   ·exact .inl (.inr (.inr (.inl e)))
   ·exact .inl (.inl e)
 have own:∀b,PG.all {x with zs:=(x.zs++[(f,g)]).set x.zs.length (Fr.bF s.next f,g),ef:=B,cf:=x.cf+1,eh:=x.eh.push {key:=.int .i64 s.next,val:=dt g.p,born:=x.ch},ch:=x.ch+1} p b->x.all p b\/g.fp b:=by
  rintro b (e|e|e|⟨u,hu,T⟩)
  ·exact .inl (.inl e)
  ·exact .inl (.inr (.inl e))
  ·exact .inl (.inr (.inr (.inl e)))
  ·rcases kB hu with ⟨j,_,hj⟩|rfl
   ·rcases QQ.1 (QL hj) with q|q
    ·exact .inl (.inr (.inr (.inr ⟨u,q,T⟩)))
    ·simp at q;subst q;exact .inr T
   ·exact .inr T
 refine hK _ X ⟨a8,h.cD.ar λb n hl=>J.same b hl ?_,?_,h.fi.1,?_⟩ ⟨J.mono λb _ e=>e.imp .inr id,?_⟩
 ·rintro(e|e)
  ·exact h.apart b n e
  ·exact(m b e).1 n
 ·intro b n hx;rcases own b hx with e|e
  ·exact h.apart b n e
  ·exact(m b e).1 n
 ·intro hx;rcases own _ hx with e|e
  ·exact h.fi.2 e
  ·exact(m _ e).2.2 rfl
 ·rintro b (e|e)
  ·exact .inl (.inl (.inl e))
  ·rcases own b e with q|q
   ·exact .inl (.inl (.inr q))
   ·exact .inl (.inr q)
end
theorem Dk.zK (s:Dk):s.change.1.aH=s.aH:=by unfold Dk.aH;rw[s.bu]
theorem Dk.nM {s:Dk}{f:Dk->Dk}{n:Nat}(h:∀t:Dk,t.files=s.files->(f t).aH<=n)(a:s.aH<=n):(s.step f).1.aH<=n:=by
 unfold Dk.step;split
 ·exact h _ s.bu
 ·show s.change.1.aH<=n;rw[s.zK];exact a
theorem Dk.JW {s t:Dk}(h:t.files=s.files):t.aH=s.aH:=by unfold Dk.aH;rw[h]
theorem Dk.mN (s:Dk)(n:ByteArray):(s.create n).1.aH<=s.aH:=by
 unfold Dk.create;split
 ·exact QN _
 ·split
  ·exact QN _
  ·split
   ·exact QN _
   ·split
    ·exact QN _
    ·refine Dk.nM (λt a=>?_) (QN _);unfold Dk.aH;simp[a]
theorem Dk.EE (s:Dk)(n:ByteArray):(s.drop n).aH<=s.aH:=by
 unfold Dk.drop;split
 ·rename_i i hi;obtain⟨f,a,_⟩:=Dk.cw hi;have:=ke (λf:Fl=>f.log.length) s.files i f a;unfold Dk.aH;simp only;omega
 ·exact QN _
theorem Dk.zu (s:Dk)(n:ByteArray):(s.remove n).1.aH<=s.aH:=by
 unfold Dk.remove;split
 ·exact QN _
 ·split
  ·exact QN _
  ·exact Dk.nM (λt a=>QZ (t.EE n) (by rw[Dk.JW a];exact QN _)) (QN _)
theorem Dk.uW (s:Dk)(n:ByteArray)(p:Int)(b:List UInt8):(s.write n p b).1.aH<=s.aH+1:=by
 unfold Dk.write;split
 ·exact RB _
 ·split
  ·split
   ·exact RB _
   ·rename_i i hi;split
    ·exact RB _
    ·split
     ·exact RB _
     ·refine Dk.nM (λt a=>?_) (RB _);obtain⟨f,c,_⟩:=Dk.cw hi;rw[<-a] at c;show ((t.files.modify i _).map λf=>f.log.length).sum<=_;have:=fK (λf:Fl=>f.log.length) (λf=>{f with log:=f.log++[⟨t.next,p.toNat,⟨b,by assumption⟩⟩]}) t.files i f c;have g:(t.files.map λf=>f.log.length).sum=s.aH:=by rw[a];rfl
      simp only[Ri,Rr,WT] at this;omega
  ·exact RB _
theorem Dk.D9 (s:Dk)(n:ByteArray):(s.sync n).1.aH<=s.aH:=by
 unfold Dk.sync;split
 ·exact QN _
 ·split
  ·exact QN _
  ·rename_i i hi;refine Dk.nM (λt a=>?_) (QN _);obtain⟨f,b,_⟩:=Dk.cw hi;rw[<-a] at b;show ((t.files.modify i _).map λf=>f.log.length).sum<=_;have:=fK (λf:Fl=>f.log.length) (λf=>{f with synced:=f.az,log:=[]}) t.files i f b;have c:(t.files.map λf=>f.log.length).sum=s.aH:=by rw[a];rfl
   simp only[WT] at this;omega
theorem Dk.xF (s:Dk):s.c8.aH<=s.aH:=by
 unfold Dk.c8;split
 ·unfold Dk.aH;simp only[R8];refine oK _ _ _ λf _=>?_;show ([]:List Wr).length<=_;exact Q5 _
 ·exact QN _
theorem Dk.vd (s:Dk)(i k:Int):(s.dj i k).aH=s.aH:=by
 unfold Dk.dj;split<;>rfl
theorem Pl.nc (s:Pl)(i:Nat):(s.put i).1.d.aH<=s.d.aH+1:=by
 unfold Pl.put;split<;>exact s.d.uW _ _ _
theorem Pl.ko (s:Pl):s.room.1.d.aH<=s.d.aH+1:=by
 unfold Pl.room;split
 ·exact RB _
 ·split
  ·exact RB _
  ·split
   ·split
    ·exact s.nc _
    ·exact s.nc _
   ·exact RB _
def Dk.size (s:Dk)(n:ByteArray):Nat:=match s.idx n with|some i=>(s.file i).az.length|none=>0
def Pl.Fit (s:Pl):Prop:=∀f∈s.fs,f.page<s.d.size f.name
theorem Dk.yY {s:Dk}{n:ByteArray}(h:(s.len n).2=0):(s.len n).1=s.size n:=by
 unfold Dk.len Dk.open at h ⊢;unfold Dk.size;by_cases hd:s.down=true
 ·rw[if_pos hd] at h;cases h
 ·rw[if_neg hd] at h ⊢;cases hi:s.idx n with
  |none=>rw[hi] at h;first|done|cases h
  |some i=>rfl
theorem Pl.Fit.new {s:Pl}(h:s.Fit){n:ByteArray}(hl:(s.d.len n).2=0):s.find n (s.d.len n).1=none:=by
 unfold Pl.find;rw[Tc];intro f a;cases b:f.name.toList==n.toList with
 |false=>rfl
 |true=>
   have e:f.name=n:=ig (by simpa using b);have:=h f a;rw[e,<-Dk.yY hl] at this;show (true&&decide ((f.page:Int)=_))=false;rw[WI];exact decide_eq_false (by omega)
def Dk.fP (s t:Dk):Prop:=∀n,s.size n<=t.size n
theorem Dk.fP.refl (s:Dk):s.fP s:=λ_=>QN _
theorem Dk.fP.trans {a b c:Dk}(h:a.fP b)(k:b.fP c):a.fP c:=λn=>QZ (h n) (k n)
theorem Pl.Fit.grow {s t:Pl}(h:s.Fit)(c:s.d.fP t.d)(g:∀f∈t.fs,∃f'∈s.fs,f'.key=f.key):t.Fit:=by
 intro f a;obtain⟨f',b,hk⟩:=g f a;have h1:f'.name=f.name:=congrArg Xo hk;have i:f'.page=f.page:=congrArg XV hk;have:=h f' b;rw[h1,i] at this;exact Sk this (c _)
theorem Dk.size_modify {s t:Dk}{i:Nat}{f:Fl}{g:Fl->Fl}(m:s.files[i]?=some f)(o:t.files=s.files.modify i g)(p:(g f).name=f.name)(hle:f.az.length<=(g f).az.length):s.fP t:=by
 intro n;have c:t.idx n=s.idx n:=by
  unfold Dk.idx;rw[o];have:∀(l:List Fl) (j:Nat),l[j]?=some f->(l.modify j g).findIdx? (λf=>f.name.toList==n.toList)=l.findIdx? (λf=>f.name.toList==n.toList):=by
   intro l
   induction l with
   |nil=>intro j h;simp at h
   |cons a l q=>
     intro j h
     match j with
     |0=>
       simp at h;subst h;simp only[Wa,VJ,p]
     |j+1=>
       simp only[RV] at h;simp only[UM,VJ,q j h]
  exact this s.files i m
 unfold Dk.size;rw[c];cases hi:s.idx n with
 |none=>exact QN _
 |some j=>
   obtain⟨u,b,_⟩:=Dk.cw hi;show (s.file j).az.length<=(t.file j).az.length;by_cases e:i=j
   ·subst e;rw[m] at b;cases b;have:t.files[i]?=some (g f):=by rw[o];exact eM m
    rw[Dk.dI m,Dk.dI this];exact hle
   ·have:t.files[j]?=some u:=by rw[o,eP e];exact b
    rw[Dk.dI b,Dk.dI this];exact QN _
theorem Dk.fP.files {s t:Dk}(h:t.files=s.files):s.fP t:=by
 intro n;have:t.size n=s.size n:=by unfold Dk.size Dk.idx Dk.file;rw[h]
 omega
theorem Dk.iJ (s:Dk):s.fP s.change.1:=.files s.bu
theorem Dk.pt {s:Dk}{f:Dk->Dk}(h:∀t:Dk,t.files=s.files->t.fP (f t)):s.fP (s.step f).1:=by
 unfold Dk.step;split
 ·exact(s.iJ).trans (h _ s.bu)
 ·exact s.iJ
theorem Fl.ug (f:Fl)(w:Wr):(({f with log:=f.log++[w]}:Fl)).az=dZ f.az w:=by simp[Fl.az]
theorem Dk.su (s:Dk)(n:ByteArray)(k:Int)(b:List UInt8):s.fP (s.write n k b).1:=by
 unfold Dk.write;split
 ·exact .refl _
 ·split
  ·split
   ·exact .refl _
   ·rename_i i hi;obtain⟨f,a,_⟩:=Dk.cw hi;split
    ·exact .refl _
    ·split
     ·exact .refl _
     ·refine Dk.pt λt c=>?_;exact Dk.size_modify (i:=i) (f:=f) (g:=λf=>{f with log:=f.log++[_]}) (by rw[c];exact a) rfl rfl (by rw[Fl.ug,di];omega)
  ·exact .refl _
theorem Dk.Bs (s:Dk)(n:ByteArray):s.fP (s.sync n).1:=by
 unfold Dk.sync;split
 ·exact .refl _
 ·split
  ·exact .refl _
  ·rename_i i hi;obtain⟨f,a,_⟩:=Dk.cw hi;refine Dk.pt λt b=>?_;exact Dk.size_modify (i:=i) (f:=f) (g:=λf=>{f with synced:=f.az,log:=[]}) (by rw[b];exact a) rfl rfl (by simp[Fl.az])
theorem Dk.kL (s:Dk)(n:ByteArray):s.fP (s.create n).1:=by
 unfold Dk.create;split
 ·exact .refl _
 ·split
  ·exact .refl _
  ·split
   ·exact .refl _
   ·split
    ·exact .refl _
    ·refine Dk.pt λt _ m=>?_;unfold Dk.size;cases hi:t.idx m with
     |none=>exact Q5 _
     |some i=>
       obtain⟨f,a,_⟩:=Dk.cw hi;have hl:=(QJ.1 a).1;have b:({t with files:=t.files++[⟨n,[],[]⟩]}:Dk).idx m=some i:=by
        unfold Dk.idx at hi ⊢;simp only[List.findIdx?_append,hi,Option.some_or]
       rw[b];have:(t.files++[(⟨n,[],[]⟩:Fl)])[i]?=some f:=by rw[Rf hl];exact a
       show (t.file i).az.length<=((t.files++[(⟨n,[],[]⟩:Fl)]).getD i _).az.length;rw[Dk.dI a];simp only[RY,this,Option.getD_some];exact QN _
theorem Pl.qK (s:Pl)(i:Nat):s.d.fP (s.put i).1.d:=by
 unfold Pl.put;split<;>exact s.d.su _ _ _
theorem Pl.BB (s:Pl):s.d.fP s.room.1.d:=by
 unfold Pl.room;split
 ·exact .refl _
 ·split
  ·exact .refl _
  ·split
   ·split
    ·exact s.qK _
    ·exact s.qK _
   ·exact .refl _
structure Live (d:Dk)(n:ByteArray)(pg:List Pg)(q:Nat):Prop where
 up:d.down=false
 calm:d.crash=none
 file:∃f,d.files=[f]/\f.name=n/\f.az=pg
 quota:d.quota=q
structure Told (p:Pl)(n:ByteArray)(N q:Nat)(T:Nat->UInt8×List UInt8)(pg:List Pg):Prop where
 wrong:p.wrong=0
 cD:Live p.d n pg q
 len:pg.length=N
 mine:∀f∈p.fs,f.name=n/\f.page<N/\T f.page=(f.kind,f.b)
 rest:∀(k:Nat) (b:Pg),pg[k]?=some b->(∀f∈p.fs,f.page=k->f.dirty=false)->ja b.1=some (T k)
