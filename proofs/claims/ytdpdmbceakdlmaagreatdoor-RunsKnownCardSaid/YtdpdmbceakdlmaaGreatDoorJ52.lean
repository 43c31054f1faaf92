/-
 RunsKnown: the law returns true; the table of the page's sum is laid as the program's text lays it. No condition beside that.
-/
import Derived.Test.YtdpdmbceakdlmaaGreatDoorPkp
import Derived.Test.YtdpdmbceakdlmaaGreatDoorFxt
import Derived.Test.YtdpdmbceakdlmaaGreatDoorJ51
/-
 RunsKnown: the loops, and the end.
-/
open Go.Builtin renaming append_->KM
open Go.ChangeSpec renaming witness_shaped->Sc
open Go.IntKind renaming i64->KG,u64->K0
open Go.OpenClaim renaming holds_of_wide->Sm
open Go.OpenSpec renaming ofChange->TE
open Go.Proofs.Tryz renaming prog->KE,f4->NV,checked->PX,func4->Qq,params4->Ra
open Go.Value renaming int->Lb
open Int renaming toNat_natCast->KU,emod_nonneg->Oj,emod_lt_of_pos->Ol
open List renaming replicate->KY
open Nat renaming mul_one->LU
open Option.some renaming inj->K1
namespace Go.Proofs.YtdpdmbceakdlmaaGreatDoor
open Go.MapKept
theorem HJ {A:Heap}{z s:Sl}{v k w:Int}(o:aT A 0 eL 1 s ((KY 16 (Lb .u64 0)).set 3 (.int .u64 v)))(hv:0<=v/\v<18446744073709551616)(hz:∀b,al s b->¬al z b):dz.at_ A z (k,s,w):=by
 have e:(KY 16 (Lb .u64 0)).set 3 (.int .u64 v)=(((KY 16 (0:Int)).set 3 v).map (Lb .u64)):=by simp[List.map_set]
 rw[e] at o
 refine⟨_,o.ints,λx hx=>?_,by simp,λad h=>⟨o.lt _ ⟨ad,h,rfl⟩,hz _ ⟨ad,h,rfl⟩⟩⟩
 rcases List.mem_or_eq_of_mem_set hx with q|q
 ·rw[List.eq_of_mem_replicate q];omega
 ·rw[q];exact hv
theorem Fu {F:Nat->Prop}{A B C:Heap}(e:Ext A B)(m:Mod F B C)(h:∀b,F b->A.size<=b):Ext A C:=
 ⟨Nat.le_trans e.size m.size,λb hb _=>(m.same b (Nat.lt_of_lt_of_le hb e.size) λq=>by have:=h b q;omega).trans (e.same b hb id)⟩
theorem uP.nil (A:Heap):uP A A eJ []:=⟨.refl _ _,aK.nil _ _ _,rl,by rintro b ⟨ad,h,_⟩;cases h⟩
section
variable {A:Heap}{K:Sl×Int->Heap->Prop}
theorem FT {n:Nat}(hn:n<=10)(hK:∀z xs B,uP A B z xs->xs.length=n->K (z,(n:Int)) B):aC (Sl×Int) ((Sl.mk none 0 0),(0:Int)) A λnext_3 z_3 H19=>br (decide (z_3.2<(n:Int))) (bt av KE (Instr.makeSlice lU (.int .i64 (16:Int)) (.int .i64 (16:Int))) H19 λ(l:Sl) H20=>ab l.a λa=>(0<=(3:Int)/\(3:Int)<(l.n:Int))/\st H20 (a.add ((3:Int).toNat*1)) (.int .u64 (K0.wrap (KG.wrap ((2:Int)*z_3.2)))) λH21=>aF H21 #[(.int .i64 (0:Int)),l.v,(.int .i64 (0:Int))] wS λp_11 H22=>bt av KE (KM #[22,22] 22 #[z_3.1.v,(.slice (some p_11) 1 1)]) H22 λ(script:Sl) H23=>next_3 (script,KG.wrap (z_3.2+(1:Int))) H23) (K z_3 H19):=by
 refine ay n (λj z B=>∃s,z=(s,(j:Int))/\∃ys,uP A B s ys/\ys.length=j) ⟨eJ,rfl,[],uP.nil A,rfl⟩ ?_
 rintro j _ B next hj ⟨s,rfl,ys,S,hl⟩ hnext
 refine ae (λhc=>?_) (λhc=>?_)
 ·have hjn:j<n:=by simp at hc;omega
  refine pk.make (base:=0) (by omega) (Int.le_refl _) (by omega) (by omega) (Nat.zero_le _) λx B1 ln o1 e1 f1 _=>?_
  refine o1.st (by omega) (by rw[ln];decide) rfl λB2 o2 m2 z2=>?_
  refine ao λB3 z3 r3 e3=>?_
  have e12:Ext B B2:=Fu e1 m2 f1
  have hv:0<=K0.wrap (KG.wrap ((2:Int)*(j:Int)))/\K0.wrap (KG.wrap ((2:Int)*(j:Int)))<18446744073709551616:=by
   rw[kD]
   exact⟨Oj _ (by decide),Ol _ (by decide)⟩
  have hoff:∀b,al x b->¬al s b:=λb q u=>by have:=f1 b q;have:=S.own.lt b u;omega
  refine(S.more (Mod.trans e12 e3)).app (x:=iE B2.size 1) (ys:=[(0,x,0)]) (r3.Ji rfl (by simp)) rfl (bN (HJ (o2.ext e3) hv hoff) rl) (by simp;omega) λz' C S'=>?_
  refine hnext hjn _ _ ⟨z',?_,_,S',by simp[hl]⟩
  show (z',KG.wrap ((j:Int)+1))=_
  rw[aI j (by omega)]
 ·have:j=n:=by simp at hc;omega
  subst this
  exact hK s ys B S hl
theorem BZ {A0:Heap}{z0:Sl}{xs0:List dz}(S0:uP A0 A z0 xs0)(h0:xs0.length<=20)(hK:∀z xs B,uP A0 B z xs->∀i,K (z,i) B):aC (Sl×Int) (z0,(0:Int)) A λnext_4 z_4 H26=>br (decide (z_4.2<(20:Int))) (aF H26 #[(.int .u64 (0:Int)),(.int .u64 (0:Int)),(.int .u64 (0:Int)),(.int .u64 (K0.wrap z_4.2))] eL λp_13 H27=>aF H27 #[(.int .i64 (4:Int)),(.slice (some p_13) 4 4),(.int .i64 (0:Int)),(.int .i64 (3:Int)),(.slice none 0 0),(.int .i64 (0:Int))] wS λp_14 H28=>bt av KE (KM #[22,22] 22 #[z_4.1.v,(.slice (some p_14) 2 2)]) H28 λ(script_2:Sl) H29=>next_4 (script_2,KG.wrap (z_4.2+(1:Int))) H29) (K z_4 H26):=by
 refine ay 20 (λj z B=>∃s,z=(s,(j:Int))/\∃ys,uP A0 B s ys/\ys.length<=20+2*j) ⟨z0,rfl,xs0,S0,by omega⟩ ?_
 rintro j _ B next hj ⟨s,rfl,ys,S,hl⟩ hnext
 refine ae (λhc=>?_) (λhc=>hK s ys B S _)
 have hjn:j<20:=by simp at hc;omega
 refine ao λB1 z1 r1 e1=>?_
 refine ao λB2 z2 r2 e2=>?_
 have hf:jW [0,0,0,K0.wrap (j:Int)]:=λy hy=>by
  rw[kD] at hy
  have h1:=Oj (j:Int) (b:=18446744073709551616) (by decide)
  have h2:=Ol (j:Int) (b:=18446744073709551616) (by decide)
  simp only[List.mem_cons,List.not_mem_nil,or_false] at hy
  rcases hy with rfl|rfl|rfl|rfl
  ·decide
  ·decide
  ·decide
  ·exact⟨h1,h2⟩
 have hoff:¬al s B.size:=λu=>by have:=S.own.lt _ u;omega
 refine(S.more (Mod.trans e1 e2)).app (x:=iE B1.size 2) (ys:=[(4,iE B.size 4,0),(3,eJ,0)]) (r2.Ji rfl (by simp)) rfl (bN (gI (l:=[0,0,0,K0.wrap (j:Int)]) (r1.ext e2) hf rfl (by decide) hoff) (bN bT rl)) (by simp;omega) λz' C S'=>?_
 refine hnext hjn _ _ ⟨z',?_,_,S',by simp;omega⟩
 show (z',KG.wrap ((j:Int)+1))=_
 rw[aI j (by omega)]
end
section
variable {H:Heap}{R:Bool->Heap->Prop}
set_option maxHeartbeats 4000000 in
theorem uM (hg:Gl H)(hK:∀B,Ext H B->R true B):HW.sp H R:=by
 refine HW.of ?_
 unfold HW.vc
 refine Im λone xs B S=>?_
 refine ay 13 (λk z C=>z=(k:Int) - 1/\Ext B C) ⟨rfl,.refl _ _⟩ ?_
 rintro k _ C next hk ⟨rfl,eC⟩ hnext
 refine ae (λhc=>?_) (λhc=>?_)
 ·have hk13:k<13:=by simp at hc;omega
  refine ao λD zD rD eD=>?_
  refine ay 4 (λi z A=>z=(i:Int)/\Ext D A) ⟨rfl,.refl _ _⟩ ?_
  rintro i _ A nx hi ⟨rfl,eA⟩ hnx
  refine ae (λhc2=>?_) (λ_=>?_)
  ·have hi4:i<4:=by simp at hc2;omega
   refine⟨⟨by omega,by omega⟩,?_⟩
   rw[KU,LU]
   obtain⟨q,hq,hq2⟩:∃q:Int,(#[(.int .i64 (0:Int)),(.int .i64 (1:Int)),(.int .i64 (2:Int)),(.int .i64 (9:Int))]:Array Value)[i]?=some ((aa .i64).enc q)/\q<=9223372036854775807:=by
    rcases (by omega:i=0\/i=1\/i=2\/i=3) with rfl|rfl|rfl|rfl
    ·exact⟨0,rfl,by decide⟩
    ·exact⟨1,rfl,by decide⟩
    ·exact⟨2,rfl,by decide⟩
    ·exact⟨9,rfl,by decide⟩
   refine(rD.ext eA).ld hq ?_
   refine gd hg (S.more (Mod.trans (Mod.trans eC eD) eA)) hq2 (by omega) λE eE=>?_
   refine aw rfl ?_
   rw[aI i (by omega)]
   exact hnx hi4 _ _ ⟨rfl,Mod.trans eA eE⟩
  ·have e:KG.wrap ((k:Int) - 1+1)=((k+1:Nat):Int) - 1:=by rw[wrap64 (by omega) (by omega)];omega
   rw[e]
   exact hnext hk13 _ _ ⟨rfl,Mod.trans (Mod.trans eC eD) eA⟩
 ·have e0:Ext H C:=Mod.trans S.ext eC
  refine ao λD zD rD eD=>?_
  refine ay 9 (λi z A=>z=(i:Int)/\Ext D A) ⟨rfl,.refl _ _⟩ ?_
  rintro i _ A nx hi ⟨rfl,eA⟩ hnx
  have eHA:Ext H A:=Mod.trans (Mod.trans e0 eD) eA
  have gA:Gl A:=hg.mod eHA id
  refine ae (λhc2=>?_) (λ_=>?_)
  ·have hi9:i<9:=by simp at hc2;omega
   refine⟨⟨by omega,by omega⟩,?_⟩
   rw[KU,LU]
   obtain⟨n,hn,hn2⟩:∃n:Nat,(#[(.int .i64 (0:Int)),(.int .i64 (1:Int)),(.int .i64 (2:Int)),(.int .i64 (3:Int)),(.int .i64 (4:Int)),(.int .i64 (6:Int)),(.int .i64 (7:Int)),(.int .i64 (9:Int)),(.int .i64 (10:Int))]:Array Value)[i]?=some ((aa .i64).enc (n:Int))/\n<=10:=by
    rcases (by omega:i=0\/i=1\/i=2\/i=3\/i=4\/i=5\/i=6\/i=7\/i=8) with rfl|rfl|rfl|rfl|rfl|rfl|rfl|rfl|rfl
    ·exact⟨0,rfl,by decide⟩
    ·exact⟨1,rfl,by decide⟩
    ·exact⟨2,rfl,by decide⟩
    ·exact⟨3,rfl,by decide⟩
    ·exact⟨4,rfl,by decide⟩
    ·exact⟨6,rfl,by decide⟩
    ·exact⟨7,rfl,by decide⟩
    ·exact⟨9,rfl,by decide⟩
    ·exact⟨10,rfl,by decide⟩
   refine(rD.ext eA).ld hn ?_
   refine FT hn2 λz xs E SE hl=>?_
   refine ao λE1 zE r1 x1=>?_
   refine(SE.more x1).app (x:=iE E.size 2) (ys:=[(1,eJ,0),(2,eJ,16)]) (r1.Ji rfl (by simp)) rfl (bN bT (bN bT rl)) (by simp;omega) λz' E2 S2=>?_
   refine BZ S2 (by simp;omega) λz2 ys E3 S3 i3=>?_
   refine gd gA S3 (by decide) (by decide) λE4 x4=>aw rfl ?_
   refine gd gA (S3.more x4) (by decide) (by decide) λE5 x5=>aw rfl ?_
   refine gd gA (S3.more (Mod.trans x4 x5)) (by decide) (by omega) λE6 x6=>aw rfl ?_
   rw[aI i (by omega)]
   exact hnx hi9 _ _ ⟨rfl,Mod.trans eA (S3.more (Mod.trans (Mod.trans x4 x5) x6)).ext⟩
  ·refine ao λE1 z1 r1 x1=>?_
   refine ao λE2 z2 r2 x2=>?_
   refine ao λE3 z3 r3 x3=>?_
   have off:∀{c:Nat},c≠E2.size->¬al (iE E2.size 10) c:=λh=>vj λq=>h q.symm
   have S3:uP A E3 (iE E2.size 10) [(0,eJ,0),(0,eJ,0),(0,iE A.size 1,0),(1,eJ,0),(2,eJ,0),(3,eJ,0),(3,eJ,0),(4,eJ,0),(3,eJ,0),(4,iE E1.size 1,0)]:=by
    refine⟨Mod.trans (Mod.trans x1 x2) x3,r3.Jn rfl (by simp),?_,?_⟩
    ·exact bN bT (bN bT (bN (gI (l:=[1]) (r1.ext (Mod.trans x2 x3)) (tP (by decide)) rfl (by decide) (off (by omega))) (bN bT (bN bT (bN bT (bN bT (bN bT (bN bT (bN (gI (l:=[0]) (r2.ext x3) (tP (by decide)) rfl (by decide) (off (by omega))) rl)))))))))
    ·rintro b ⟨ad,q,rfl⟩
     cases q
     show A.size<=E2.size
     omega
   refine gd gA S3 (by decide) (by decide) λE4 x4=>aP rfl ?_
   refine gd gA (S3.more x4) (by decide) (by decide) λE5 x5=>aP rfl ?_
   refine gd gA (S3.more (Mod.trans x4 x5)) (by decide) (by decide) λE6 x6=>aP rfl ?_
   have y6:Ext H E6:=Mod.trans eHA (S3.more (Mod.trans (Mod.trans x4 x5) x6)).ext
   refine vU (hg.mod y6 id) λE7 x7=>aP rfl ?_
   refine AI (hg.mod (Mod.trans y6 x7) id) λE8 x8=>aP rfl ?_
   exact oU (hg.mod (Mod.trans (Mod.trans y6 x7) x8) id) λE9 x9=>hK E9 (Mod.trans (Mod.trans (Mod.trans y6 x7) x8) x9)
end
end Go.Proofs.YtdpdmbceakdlmaaGreatDoor
namespace Go.Proofs.YtdpdmbceakdlmaaGreatDoor
open Go.ChangeShapes Go.WideShapes Go.ChangeAt Go.RowKit
set_option maxRecDepth 100000 in
theorem oo (os:Os)(started:os.Started)(H:Type)(enc:TypeId×Value->H):
  ReturnsInHanded {} PX os 4 .any (λw args=>(Rows.runsKnownSpec.pre enc KE NV [] false w args/\laidMetH KE vh w)/\sizedMet enc KE NV (TE Rows.runsKnownSpec) false w args)
   (Rows.runsKnownSpec.post enc KE NV false true false false):=by
 refine returnsInHanded_of_change_and (C:=PX) (X:=λw _=>laidMetH KE vh w) (λ_ _ _ hh h=>h.of_heap hh) Aw started (by kernel_rfl) Qq
  (Sc (enc:=enc) (C:=PX) (os:=os) (X:=λw _=>laidMetH KE vh w) false (World.doorLaid KE 400 os) #[] 8 rfl (World.shaped_of_RefB (by kernel_rfl) (by kernel_rfl)) (by kernel_rfl) (by kernel_rfl) (by kernel_rfl) (BG os _)) ?_
 intro W base args ds gs before hval0 hW _ hz hL _
 have hW':=hW
 obtain⟨p,q,hA0,hV,rfl,hfz,hnd⟩:=hW
 have hA:DataW.TrodAll enc KE W 0 (λ_=>true) true NV.params.toList args.toList ds p:=hA0
 rw[Ra] at hA
 obtain⟨rfl,rfl,rfl⟩:=trodAll_none hA
 obtain⟨rfl,rfl⟩:=trodVars_none hV
 have hspec:=uM (H:=W.heap) (R:=λb H'=>b=true/\Ext W.heap H') (yE hL) (λH' e=>⟨rfl,e⟩)
 refine(hspec W rfl).mono λe W' ⟨v,he,⟨x,hx,hb,hext⟩,hal⟩=>?_
 subst he;subst hx;subst hb
 exact⟨_,rfl,DD rT (by decide+kernel) rfl (by kernel_rfl) rfl rfl rfl rfl hW' hext hal⟩
theorem rJ:Rows.RunsKnownSaid:=
 Sm 4 NV rfl rfl rfl rfl rfl rfl rfl ⟨rfl,rfl,rfl,rfl,rfl⟩ rfl rfl rfl rfl rfl (by kernel_rfl) Qq (by kernel_rfl)
  (of_decide_eq_true (by kernel_rfl)) (by unfold Func.isWrapper;first|(rw[if_pos (by decide+kernel)];kernel_rfl)|(rw[if_neg (by decide+kernel)];exact⟨rfl,rfl⟩))
  (λos started H enc _=>oo os started H enc)
theorem runsKnown_holds:Rows.RunsKnownCardSaid:=
 Claim7.holds_tied_plain_at .later [] [.data] true _ false
  rJ (λ_ h=>by cases h) (by kernel_rfl) (λ_ h=>by cases h) runsKnown_row_tie rfl ⟨rfl,rfl⟩ (by kernel_rfl) rfl
  (λf fn hf hfn=>by
   obtain rfl:f=4:=K1 ((show KE.funcNamed "fathom/fathomlaw07.RunsKnown"=some 4 by kernel_rfl).symm.trans hf) |>.symm
   obtain rfl:fn=NV:=(K1 (Qq.symm.trans hfn)).symm
   exact⟨by kernel_rfl,λj t ht=>by
    rw[Ra] at ht
    simp at ht⟩)
  (by kernel_rfl)
#print axioms runsKnown_holds
end Go.Proofs.YtdpdmbceakdlmaaGreatDoor
