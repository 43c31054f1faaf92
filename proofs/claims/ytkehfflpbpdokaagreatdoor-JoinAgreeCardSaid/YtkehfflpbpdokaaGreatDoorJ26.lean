/-
 What the given statements on relations share: the tables as they are laid.
-/
import Derived.LaidHandle
import Derived.LaidLaws
import Derived.LaidMore
import Derived.MakeChecks
import Derived.OpenShut
import Derived.SevenTiedAt
import Derived.Stop.Joined
import Derived.Test.YtkehfflpbpdokaaGreatDoorCards
import Derived.Test.YtkehfflpbpdokaaGreatDoorRows
import Derived.Test.YtkehfflpbpdokaaGreatDoorTie
import Derived.Test.YtkehfflpbpdokaaGreatDoorVc
import Derived.Test.YtkehfflpbpdokaaGreatDoorFxj
import Derived.Test.YtkehfflpbpdokaaGreatDoorFxk
import Derived.Test.YtkehfflpbpdokaaGreatDoorPgb
import Derived.Test.YtkehfflpbpdokaaGreatDoorFxh
open Array renaming replicate->RJ,getElem?_setIfInBounds->SJ
open ByteArray renaming mk->RV,empty->Tk
open Go.Addr renaming add->QS
open Go.DataW renaming trod_array->Ym,trod_int->YA
open Go.DataW.agg renaming inj->aaL
open Go.DataW.lit renaming injEq->aaD
open Go.IntKind renaming i64->Qe,u32->Qh,u8->QF,u64->Q0,wrap_u64->Ve,wrap_u8->Wp,wrap_u32->Z8
open Go.MakeChecks renaming laidMetH_plain->Wa
open Go.Proofs.Tryz renaming prog->Qf
open Go.Value renaming int->Ql
open Go.World renaming var?_cell->Yt
open Int renaming toNat_natCast->QD,tmod->QK,emod_eq_of_lt->YB
open List renaming getElem?_eq_getElem->Qg,getElem?_map->QC,getElem?_take->Rb,getElem?_drop->Rr
open Nat renaming mul_one->Q9,add_zero->UU
open Option.some renaming inj->Qq
open Prod.mk renaming inj->Xx
namespace Go.Proofs.YtkehfflpbpdokaaGreatDoor
open Go.ChangeShapes Go.WideShapes Go.ChangeAt Go.RowKit
theorem EN:ownKnob Qf.godebug=none:=by kernel_rfl
theorem u7:laidOutB Qf=true:=by kernel_rfl
def wI:List (String×DataW Unit):=[("math/bits.deBruijn32tab",Rows.laid_math_bits_deBruijn32tab),("math/bits.deBruijn64tab",Rows.laid_math_bits_deBruijn64tab),("internal/strconv.uint64pow10",Rows.laid_internal_strconv_uint64pow10),("fathom/page.steps",Rows.laid_fathom_page_steps)]
def Kw:List (DataW Unit):=oq.map λb=>.lit (.int .u32 (b.toNat:Int))
theorem JH:(Rows.laid_fathom_page_steps:DataW Unit)=.agg Kw:=by rfl
theorem Co {W:World}(h:laidMetH Qf wI W):Gl W.heap:=by
 rw[Wa _ _ _ (by kernel_rfl)] at h;obtain⟨ps,⟨_,_,_,_,_,_,_,_,_,_,⟨_,_,_,_,_,_,_,_,_,_,⟨_,_,_,_,_,_,_,_,_,_,⟨g0,t0,c,f0,z,A,d,j,l,o,_,_⟩,_⟩,_⟩,_⟩,_,_⟩:=h;obtain rfl:=Qq ((show Qf.globalNamed "fathom/page.steps"=some ia by kernel_rfl).symm.trans d);obtain rfl:=Qq ((show (Qf.globals[ia]?).map (·.type)=some 322 by kernel_rfl).symm.trans j);obtain⟨xs,m,_,u,hlen,B,p⟩:=Ym (n:=16) (e:=245) (by kernel_rfl) o;have f:Kw=xs.map (·.1):=by
  have h1:(Rows.laid_fathom_page_steps:DataW Unit)=.agg (xs.map (·.1)):=(Xx u).1;rw[JH] at h1;exact aaL h1
 intro i hi;have a:=p i hi;rw[show Qf.cellsOf 245=1 by kernel_rfl,Q9] at a;have g:i<xs.length:=by omega
 rw[Qg g] at a;obtain⟨k,v,e2,_⟩:=YA (k:=.u32) (by kernel_rfl) a;have hk:Kw[i]?=some (.lit (.int .u32 k)):=by rw[f,QC,Qg g,e2];rfl
 unfold Kw at hk;rw[QC] at hk;obtain⟨b,w,x⟩:=Option.map_eq_some_iff.1 hk;have y:k=(b.toNat:Int):=by
  have:=x;simp only[aaD,Lit.int.injEq,true_and] at this;exact this.symm
 have q:oq.getD i 0#32=b:=by simp[List.getD,w]
 rw[q,<-y];have s:=Yt d l i;have r:c[i]?=some (.int .u32 k):=by
  have t:((c.toList.drop i).take 1)[0]?=some (Ql .u32 k):=by rw[v];rfl
  rw[Rb,if_pos (by decide),Rr,UU] at t;simpa using t
 rw[r] at s;exact s
theorem HT (os:Os)(args:Array Value):laidMetH Qf wI ((World.doorLaid Qf 400 os).forCall (λ_ _=>0) ⟨#[],args,[]⟩).memory:=
 laidMetH_of_parts3 (fuel:=8) (laidMet_of_run' 8 (by kernel_rfl) (by kernel_rfl)) (by kernel_rfl) (by kernel_rfl)
end Go.Proofs.YtkehfflpbpdokaaGreatDoor
namespace Go.Proofs.YtkehfflpbpdokaaGreatDoor
open Go.MapKept
def MC:ByteArray:=RV #[48,49,50,51,52,53,54,55,56,57,97,98,99,100,101,102,103,104,105,106,107,108,109,110,111,112,113,114,115,116,117,118,119,120,121,122]
def Ov:ByteArray:=RV #[48,48,48,49,48,50,48,51,48,52,48,53,48,54,48,55,48,56,48,57,49,48,49,49,49,50,49,51,49,52,49,53,49,54,49,55,49,56,49,57,50,48,50,49,50,50,50,51,50,52,50,53,50,54,50,55,50,56,50,57,51,48,51,49,51,50,51,51,51,52,51,53,51,54,51,55,51,56,51,57,52,48,52,49,52,50,52,51,52,52,52,53,52,54,52,55,52,56,52,57,53,48,53,49,53,50,53,51,53,52,53,53,53,54,53,55,53,56,53,57,54,48,54,49,54,50,54,51,54,52,54,53,54,54,54,55,54,56,54,57,55,48,55,49,55,50,55,51,55,52,55,53,55,54,55,55,55,56,55,57,56,48,56,49,56,50,56,51,56,52,56,53,56,54,56,55,56,56,56,57,57,48,57,49,57,50,57,51,57,52,57,53,57,54,57,55,57,56,57,57]
def jT (n:Nat):ByteArray:=if n<10 then MC.extract n (n+1) else if n<100 then Ov.extract (2*n) (2*n+2) else if n<1000 then RV #[UInt8.ofNat (48+n/100)]++Ov.extract (2*(n%100)) (2*(n%100)+2) else Tk
theorem Jn {n:Nat}{H:aa}{K:ByteArray->aa->Prop}(c:n<100)(a:K (jT n) H):E6.sp (n:Int) H K:=by
 refine E6.of ?_;unfold E6.vc;refine IQ.of ?_;unfold IQ.vc;refine IW.of ?_;unfold IW.vc;refine aT rfl ?_;refine aT (by simp;omega) ?_;refine MJ.of ?_;unfold MJ.vc;rw[aH n (by omega)];have e2:Qe.wrap ((n:Int)*2)=((2*n:Nat):Int):=by rw[wrap64 (by omega) (by omega)];omega
 rw[e2];have d:Qe.wrap (((2*n:Nat):Int)+2)=((2*n+2:Nat):Int):=by rw[wrap64 (by omega) (by omega)];omega
 rw[d];simp only[QD];unfold jT at a;refine ao (λb=>?_) (λb=>?_)
 ·have h1:n<10:=by
   have:(n:Int)<10:=of_decide_eq_true b;omega
  rw[if_pos h1] at a;have hs:MC.size=36:=by decide
  refine⟨⟨by omega,?_⟩,⟨by omega,by omega⟩,a⟩;show ((n+1:Nat):Int)<=((MC.size:Nat):Int);omega
 ·have h1:¬n<10:=by
   have:¬(n:Int)<10:=of_decide_eq_false b;omega
  rw[if_neg h1,if_pos c] at a;have hs:Ov.size=200:=by decide+kernel
  refine⟨⟨by omega,?_⟩,⟨by omega,by omega⟩,a⟩;show ((2*n+2:Nat):Int)<=((Ov.size:Nat):Int);omega
def OB (l:List UInt8):Nat:=l.foldl (λa c=>10*a+(c.toNat - 48)) 0
theorem nF:∀n,n<1000->OB (jT n).toList=n/\(jT n).size<=3:=by decide+kernel
theorem Ef:∀n,n<1000->jT n≠Tk:=by decide+kernel
end Go.Proofs.YtkehfflpbpdokaaGreatDoor
namespace Go.Proofs.YtkehfflpbpdokaaGreatDoor
theorem Ou {k:Nat}(h:k<4294967296):Qh.wrap (k:Int)=(k:Int):=by
 rw[Z8];exact YB (by omega) (by omega)
theorem OX {k:Nat}(h:k<18446744073709551616):Q0.wrap (k:Int)=(k:Int):=by
 rw[Ve];exact YB (by omega) (by omega)
theorem Mf:∀n:Nat,n<1000->256<=n->(0<=QF.wrap (bm .u64 (n:Int) 8)/\QF.wrap (bm .u64 (n:Int) 8)<(gw.size:Int))/\bm .i64 (Qe.wrap (Qe.wrap (Qe.wrap ((0:Int)+8)+Qe.wrap ((cZ gw (QF.wrap (bm .u64 (n:Int) 8)).toNat).toNat:Int))*78913)) 18=(if n<512 then 2 else 3):=by decide+kernel
theorem Mt:∀n:Nat,n<256->100<=n->(0<=QF.wrap (n:Int)/\QF.wrap (n:Int)<(gw.size:Int))/\bm .i64 (Qe.wrap (Qe.wrap ((0:Int)+Qe.wrap ((cZ gw (QF.wrap (n:Int)).toNat).toNat:Int))*78913)) 18=2:=by decide+kernel
theorem AY:∀n:Nat,n<1000->100<=n->bytesOf [QF.wrap (Qh.wrap (48+((n/100:Nat):Int))),((cZ bS (2*(n%100))).toNat:Int),((cZ bS (2*(n%100)+1)).toNat:Int)]=jT n:=by decide+kernel
open Go.MapKept
def zP:Nat:=0
def Pw (H:aa):Prop:=cg H ⟨zP,2,none⟩=some (.int .u64 100)/\cg H ⟨zP,3,none⟩=some (.int .u64 1000)
theorem Pw.ext {A B:aa}(h:Pw A)(e:Ext A B):Pw B:=by
 have k:B[zP]?=A[zP]?:=e.same _ (kq h.1) id;exact⟨(eX k).trans h.1,(eX k).trans h.2⟩
section
variable {H:aa}{n:Nat}
theorem xj {K:Int->aa->Prop}(hw:Pw H)(h1:100<=n)(i:n<1000)(g:K 3 H):KE.sp (n:Int) H K:=by
 refine KE.of ?_;unfold KE.vc;have fin:∀x:Int,bm .i64 (Qe.wrap (x*78913)) 18=(if n<512 then 2 else 3)->LQ.sp x H λ(d:Int) h=>(0<=d/\d<((20:Nat):Int))/\ld (ai .u64) h ((Addr.mk zP 0 none).add (d.toNat*1)) λ(x:Int)=>Ij.sp (decide ((n:Int)>=x)) h λ(f:Int) j=>K (Qe.wrap (d+f)) j:=λx e=>by
  refine LQ.of ?_;unfold LQ.vc;rw[e];by_cases q:n<512
  ·rw[if_pos q];refine⟨by decide,100,hw.1,?_⟩;refine Ij.of ?_;unfold Ij.vc;refine aT (by simp;omega) ?_;exact g
  ·rw[if_neg q];refine⟨by decide,1000,hw.2,?_⟩;refine Ij.of ?_;unfold Ij.vc;refine az (by simp<;>omega) ?_;exact g
 refine MQ.of ?_;unfold MQ.vc;refine az (by simp;omega) (az (by simp;omega) ?_);refine ao (λc=>?_) (λc=>?_)
 ·have c:256<=n:=by
   have:(n:Int)>=256:=of_decide_eq_true c;omega
  obtain⟨a,b⟩:=Mf n i c;exact⟨a,fin _ b⟩
 ·have c:n<256:=by
   have:¬(n:Int)>=256:=of_decide_eq_false c;omega
  obtain⟨a,b⟩:=Mt n c h1;exact⟨a,fin _ (by rw[b,if_pos (by omega)])⟩
def Fk (n:Nat):Array Value:=(((RJ 24 (Ql .u8 0)).setIfInBounds 3 (.int .u8 ((cZ bS (2*(n%100)+1)).toNat:Int))).setIfInBounds 2 (.int .u8 ((cZ bS (2*(n%100))).toNat:Int))).setIfInBounds 1 (.int .u8 (QF.wrap (Qh.wrap (48+((n/100:Nat):Int)))))
set_option maxRecDepth 100000 in
theorem Fq (n:Nat):(Fk n)[1]?=some (.int .u8 (QF.wrap (Qh.wrap (48+((n/100:Nat):Int)))))/\(Fk n)[2]?=some (.int .u8 ((cZ bS (2*(n%100))).toNat:Int))/\(Fk n)[3]?=some (.int .u8 ((cZ bS (2*(n%100)+1)).toNat:Int)):=by
 unfold Fk;refine⟨?_,?_,?_⟩
 ·rw[SJ,if_pos rfl,if_pos (by simp)]
 ·rw[SJ,if_neg (by decide),SJ,if_pos rfl,if_pos (by simp)]
 ·rw[SJ,if_neg (by decide),SJ,if_neg (by decide),SJ,if_pos rfl,if_pos (by simp)]
theorem rY {p c:Nat}{K:Unit->aa->Prop}(r:ab H p M9 (RJ 24 (Ql .u8 0)))(h1:100<=n)(k:n<1000)(e:∀B,ab B p M9 (Fk n)->Mod (λx=>x=p) H B->K () B):KB.sp (Sl.mk (some (QS ⟨p,0,none⟩ 1)) 3 c) (n:Int) H K:=by
 refine KB.of ?_;unfold KB.vc;refine ay 0 (λ_ z B=>z=((n:Int),(3:Int))/\H=B) ⟨rfl,rfl⟩ ?_;rintro _ _ _ next _ ⟨rfl,rfl⟩ _
 refine az rfl ?_;refine⟨λz B=>z=((3:Int),(n:Int))/\H=B,az rfl ⟨?_,rfl⟩,?_⟩
 ·rw[Ou (by omega)]
 rintro _ _ ⟨rfl,rfl⟩;have b:Qh.wrap (QK (n:Int) 100*2)=((2*(n%100):Nat):Int):=by
  rw[show QK (n:Int) 100*2=((2*(n%100):Nat):Int) from by rw[show QK (n:Int) 100=((n%100:Nat):Int) from rfl];omega];exact Ou (by omega)
 have f:Qh.wrap (Qh.wrap (QK (n:Int) 100*2)+1)=((2*(n%100)+1:Nat):Int):=by
  rw[b,show ((2*(n%100):Nat):Int)+1=((2*(n%100)+1:Nat):Int) from rfl];exact Ou (by omega)
 have e2:Qh.wrap (Int.tdiv (n:Int) 100)=((n/100:Nat):Int):=by
  rw[show Int.tdiv (n:Int) 100=((n/100:Nat):Int) from rfl];exact Ou (by omega)
 have hs:bS.size=200:=by decide+kernel
 refine⟨λz B=>z=((1:Int),((n/100:Nat):Int))/\ab B p M9 (((RJ 24 (Ql .u8 0)).setIfInBounds 3 (.int .u8 ((cZ bS (2*(n%100)+1)).toNat:Int))).setIfInBounds 2 (.int .u8 ((cZ bS (2*(n%100))).toNat:Int)))/\Mod (λx=>x=p) H B,?_,?_⟩
 ·refine aT rfl ?_;dsimp only;rw[f,b,e2,hs];refine⟨⟨by omega,by omega⟩,⟨by omega,by omega⟩,?_⟩;simp only[aw,add_add];refine⟨⟨by decide,by decide⟩,?_⟩;refine ab.st r (i:=3) (by decide) rfl λd a m1 g=>?_;refine⟨⟨by decide,by decide⟩,?_⟩;refine ab.st a (i:=2) (by simp) rfl λl r2 m2 z2=>?_;refine⟨?_,?_,m1.trans m2⟩
  ·rfl
  ·simpa only[QD] using r2
 ·rintro _ B ⟨rfl,h,j⟩;refine aT rfl ?_;simp only[aw,add_add];refine⟨⟨by decide,by decide⟩,?_⟩;refine ab.st h (i:=1) (by simp) rfl λd a m1 g=>?_;exact e d a (j.trans m1)
theorem Ft {K:ByteArray->aa->Prop}(hw:Pw H)(c:n<1000)(f:∀B,Ext H B->K (jT n) B):E6.sp (n:Int) H K:=by
 by_cases q:n<100
 ·exact Jn q (f H (.refl _ _))
 have h1:100<=n:=by omega
 refine E6.of ?_;unfold E6.vc;refine IQ.of ?_;unfold IQ.vc;refine IW.of ?_;unfold IW.vc;refine aT rfl ?_;refine az (by simp<;>omega) ?_;refine aj λA o d g=>?_;have d:ab A H.size M9 (RJ 24 (Ql .u8 0)):=by
  have e:zc Qf M9=RJ 24 (Ql .u8 0):=by kernel_rfl
  rw[<-e];exact d
 refine az (by simp<;>omega) ?_;rw[OX (by omega)];refine xj (hw.ext g) h1 c ?_;have j:Qe.wrap ((1:Int)+3)=4:=by decide
 rw[j];refine⟨⟨by decide,by decide⟩,⟨by decide,by decide⟩,?_⟩;refine rY d h1 c λB k l=>?_;refine az (by simp<;>omega) ?_;refine⟨⟨by decide,by decide⟩,⟨by decide,by decide⟩,?_⟩;have m:Ints .u8 B (Sl.mk (some (QS ⟨H.size,0,none⟩ 1)) 3 23) [QF.wrap (Qh.wrap (48+((n/100:Nat):Int))),((cZ bS (2*(n%100))).toNat:Int),((cZ bS (2*(n%100)+1)).toNat:Int)]:=by
  refine⟨rfl,λi v a=>⟨_,rfl,?_⟩⟩;rw[add_add,bJ];refine k.cell ?_;obtain⟨d1,d2,d3⟩:=Fq n;have hi:i<3:=(List.getElem?_eq_some_iff.1 a).1;rcases (by omega:i=0\/i=1\/i=2) with rfl|rfl|rfl
  ·exact d1.trans a
  ·exact d2.trans a
  ·exact d3.trans a
 refine MX (s:=Sl.mk (some (QS ⟨H.size,0,none⟩ 1)) 3 23) m (λx h=>?_) ?_
 ·simp only[List.mem_cons,List.not_mem_nil,or_false] at h;rcases h with rfl|rfl|rfl
  ·rw[Wp];exact⟨Int.emod_nonneg _ (by decide),Int.emod_lt_of_pos _ (by decide)⟩
  ·exact⟨by omega,by have:=(cZ bS (2*(n%100))).toNat_lt;omega⟩
  ·exact⟨by omega,by have:=(cZ bS (2*(n%100)+1)).toNat_lt;omega⟩
 ·rw[AY n c h1];exact f B (Mod.ext ((Ext.mod g).trans l) λb p=>by omega)
end
end Go.Proofs.YtkehfflpbpdokaaGreatDoor
namespace Go.Proofs.YtkehfflpbpdokaaGreatDoor
open Go.ChangeShapes Go.WideShapes Go.ChangeAt Go.RowKit
def Mx (d:DataW Unit):List (DataW Unit):=match d with|.agg l=>l|_=>[]
theorem BC {W:World}(h:laidMetH Qf wI W):Pw W.heap:=by
 rw[Wa _ _ _ (by kernel_rfl)] at h;obtain⟨ps,⟨_,_,_,_,_,_,_,_,_,_,⟨_,_,_,_,_,_,_,_,_,_,⟨g0,t0,b,f0,v,x,c,g,j,l,_,_⟩,_⟩,_⟩,_,_⟩:=h;obtain rfl:=Qq ((show Qf.globalNamed "internal/strconv.uint64pow10"=some zP by kernel_rfl).symm.trans c);obtain rfl:=Qq ((show (Qf.globals[zP]?).map (·.type)=some 297 by kernel_rfl).symm.trans g);obtain⟨xs,m,_,s,hlen,y,o⟩:=Ym (n:=20) (e:=gM) (by kernel_rfl) l;have d:Mx Rows.laid_internal_strconv_uint64pow10=xs.map (·.1):=congrArg Mx (Xx s).1;have one:∀(i:Nat) (w:Int),i<20->(Mx Rows.laid_internal_strconv_uint64pow10)[i]?=some (.lit (.int .u64 w))->cg W.heap ⟨zP,i,none⟩=some (.int .u64 w):=by
  intro i w hi hw;have a:=o i hi;rw[show Qf.cellsOf gM=1 by kernel_rfl,Q9] at a;have f:i<xs.length:=by omega
  rw[Qg f] at a;obtain⟨k,t,e2,_⟩:=YA (k:=.u64) (by kernel_rfl) a;rw[d,QC,Qg f] at hw;have u:k=w:=by
   have:(some (DataW.lit (Lit.int .u64 k)):Option (DataW Unit))=some (.lit (.int .u64 w)):=by rw[<-hw,e2];rfl
   simpa using this
  have q:=Yt c j i;have p:b[i]?=some (.int .u64 k):=by
   have r:((b.toList.drop i).take 1)[0]?=some (Ql .u64 k):=by rw[t];rfl
   rw[Rb,if_pos (by decide),Rr,UU] at r;simpa using r
  rw[p,u] at q;exact q
 exact⟨one 2 100 (by decide) rfl,one 3 1000 (by decide) rfl⟩
end Go.Proofs.YtkehfflpbpdokaaGreatDoor
