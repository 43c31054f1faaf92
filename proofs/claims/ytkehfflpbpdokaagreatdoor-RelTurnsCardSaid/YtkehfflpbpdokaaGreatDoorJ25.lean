/-
 What the given statements on relations share: the tables as they are laid.
-/
import Derived.LaidHandle
import Derived.LaidLaws
import Derived.LaidMore
import Derived.MakeChecks
import Derived.OpenShut
import Derived.SevenTiedAt
import Derived.Stop.Joined
import Derived.Test.YtkehfflpbpdokaaGreatDoorCards
import Derived.Test.YtkehfflpbpdokaaGreatDoorRows
import Derived.Test.YtkehfflpbpdokaaGreatDoorTie
import Derived.Test.YtkehfflpbpdokaaGreatDoorVc
import Derived.Test.YtkehfflpbpdokaaGreatDoorFxj
import Derived.Test.YtkehfflpbpdokaaGreatDoorFxk
import Derived.Test.YtkehfflpbpdokaaGreatDoorPgb
import Derived.Test.YtkehfflpbpdokaaGreatDoorFxh
open Array renaming replicate->LV,getElem?_setIfInBounds->Mw
open ByteArray renaming mk->LA,empty->MU
open Go.Addr renaming add->K0
open Go.DataW renaming trod_array->RN,trod_int->R4
open Go.DataW.agg renaming inj->UM
open Go.DataW.lit renaming injEq->UF
open Go.IntKind renaming i64->Ke,u32->Kh,u8->KH,u64->K7,wrap_u64->OE,wrap_u8->ON,wrap_u32->Ua
open Go.Lit.int renaming injEq->UN
open Go.MakeChecks renaming laidMetH_plain->PD
open Go.Proofs.Tryz renaming prog->Kf
open Go.Value renaming int->Km
open Go.World renaming var?_cell->RV
open Int renaming toNat_natCast->KI,tmod->KJ,emod_eq_of_lt->R5
open List renaming getElem?_eq_getElem->Kg,getElem?_map->KC,getElem?_take->Lh,getElem?_drop->Lv
open Nat renaming mul_one->Ld,add_zero->OM
open Option.some renaming inj->Kq
open Prod.mk renaming inj->QY
namespace Go.Proofs.YtkehfflpbpdokaaGreatDoor
open Go.ChangeShapes Go.WideShapes Go.ChangeAt Go.RowKit
theorem zT:ownKnob Kf.godebug=none:=by kernel_rfl
theorem qY:laidOutB Kf=true:=by kernel_rfl
def sv:List (String×DataW Unit):=[("math/bits.deBruijn32tab",Rows.laid_math_bits_deBruijn32tab),("math/bits.deBruijn64tab",Rows.laid_math_bits_deBruijn64tab),("internal/strconv.uint64pow10",Rows.laid_internal_strconv_uint64pow10),("fathom/page.steps",Rows.laid_fathom_page_steps)]
def EE:List (DataW Unit):=lr.map λb=>.lit (.int .u32 (b.toNat:Int))
theorem DD:(Rows.laid_fathom_page_steps:DataW Unit)=.agg EE:=by rfl
theorem xZ {W:World}(h:laidMetH Kf sv W):Gl W.heap:=by
 rw[PD _ _ _ (by kernel_rfl)] at h
 obtain⟨ps,⟨_,_,_,_,_,_,_,_,_,_,⟨_,_,_,_,_,_,_,_,_,_,⟨_,_,_,_,_,_,_,_,_,_,⟨g0,t0,cs0,f0,p0,q0,hg0,ht0,hv0,hd0,_,_⟩,_⟩,_⟩,_⟩,_,_⟩:=h
 obtain rfl:=Kq ((show Kf.globalNamed "fathom/page.steps"=some ft by kernel_rfl).symm.trans hg0)
 obtain rfl:=Kq ((show (Kf.globals[ft]?).map (·.type)=some 322 by kernel_rfl).symm.trans ht0)
 obtain⟨xs,m,_,hx,hlen,hn,hel⟩:=RN (n:=16) (e:=245) (by kernel_rfl) hd0
 have hlit:EE=xs.map (·.1):=by
  have h1:(Rows.laid_fathom_page_steps:DataW Unit)=.agg (xs.map (·.1)):=(QY hx).1
  rw[DD] at h1
  exact UM h1
 intro i hi
 have hi':=hel i hi
 rw[show Kf.cellsOf 245=1 by kernel_rfl,Ld] at hi'
 have hil:i<xs.length:=by omega
 rw[Kg hil] at hi'
 obtain⟨k,e1,e2,_⟩:=R4 (k:=.u32) (by kernel_rfl) hi'
 have hk:EE[i]?=some (.lit (.int .u32 k)):=by rw[hlit,KC,Kg hil,e2];rfl
 unfold EE at hk
 rw[KC] at hk
 obtain⟨b,hb,eb⟩:=Option.map_eq_some_iff.1 hk
 have ek:k=(b.toNat:Int):=by
  have:=eb
  simp only[UF,UN,true_and] at this
  exact this.symm
 have hgd:lr.getD i 0#32=b:=by simp[List.getD,hb]
 rw[hgd,<-ek]
 have hc:=RV hg0 hv0 i
 have hcs:cs0[i]?=some (.int .u32 k):=by
  have h2:((cs0.toList.drop i).take 1)[0]?=some (Km .u32 k):=by rw[e1];rfl
  rw[Lh,if_pos (by decide),Lv,OM] at h2
  simpa using h2
 rw[hcs] at hc
 exact hc
theorem CE (os:Os)(args:Array Value):laidMetH Kf sv ((World.doorLaid Kf 400 os).forCall (λ_ _=>0) ⟨#[],args,[]⟩).memory:=
 laidMetH_of_parts3 (fuel:=8) (laidMet_of_run' 8 (by kernel_rfl) (by kernel_rfl)) (by kernel_rfl) (by kernel_rfl)
end Go.Proofs.YtkehfflpbpdokaaGreatDoor
namespace Go.Proofs.YtkehfflpbpdokaaGreatDoor
open Go.MapKept
def Gx:ByteArray:=LA #[48,49,50,51,52,53,54,55,56,57,97,98,99,100,101,102,103,104,105,106,107,108,109,110,111,112,113,114,115,116,117,118,119,120,121,122]
def IC:ByteArray:=LA #[48,48,48,49,48,50,48,51,48,52,48,53,48,54,48,55,48,56,48,57,49,48,49,49,49,50,49,51,49,52,49,53,49,54,49,55,49,56,49,57,50,48,50,49,50,50,50,51,50,52,50,53,50,54,50,55,50,56,50,57,51,48,51,49,51,50,51,51,51,52,51,53,51,54,51,55,51,56,51,57,52,48,52,49,52,50,52,51,52,52,52,53,52,54,52,55,52,56,52,57,53,48,53,49,53,50,53,51,53,52,53,53,53,54,53,55,53,56,53,57,54,48,54,49,54,50,54,51,54,52,54,53,54,54,54,55,54,56,54,57,55,48,55,49,55,50,55,51,55,52,55,53,55,54,55,55,55,56,55,57,56,48,56,49,56,50,56,51,56,52,56,53,56,54,56,55,56,56,56,57,57,48,57,49,57,50,57,51,57,52,57,53,57,54,57,55,57,56,57,57]
def gW (n:Nat):ByteArray:=if n<10 then Gx.extract n (n+1) else if n<100 then IC.extract (2*n) (2*n+2) else if n<1000 then LA #[UInt8.ofNat (48+n/100)]++IC.extract (2*(n%100)) (2*(n%100)+2) else MU
theorem Ez {n:Nat}{H:aa}{K:ByteArray->aa->Prop}(hn:n<100)(hK:K (gW n) H):AK.sp (n:Int) H K:=by
 refine AK.of ?_
 unfold AK.vc
 refine EV.of ?_
 unfold EV.vc
 refine DR.of ?_
 unfold DR.vc
 refine aT rfl ?_
 refine aT (by simp;omega) ?_
 refine GC.of ?_
 unfold GC.vc
 rw[aK n (by omega)]
 have e2:Ke.wrap ((n:Int)*2)=((2*n:Nat):Int):=by rw[wrap64 (by omega) (by omega)];omega
 rw[e2]
 have e3:Ke.wrap (((2*n:Nat):Int)+2)=((2*n+2:Nat):Int):=by rw[wrap64 (by omega) (by omega)];omega
 rw[e3]
 simp only[KI]
 unfold gW at hK
 refine ak (λhc=>?_) (λhc=>?_)
 ·have h1:n<10:=by
   have:(n:Int)<10:=of_decide_eq_true hc
   omega
  rw[if_pos h1] at hK
  have hs:Gx.size=36:=by decide
  refine⟨⟨by omega,?_⟩,⟨by omega,by omega⟩,hK⟩
  show ((n+1:Nat):Int)<=((Gx.size:Nat):Int)
  omega
 ·have h1:¬n<10:=by
   have:¬(n:Int)<10:=of_decide_eq_false hc
   omega
  rw[if_neg h1,if_pos hn] at hK
  have hs:IC.size=200:=by decide+kernel
  refine⟨⟨by omega,?_⟩,⟨by omega,by omega⟩,hK⟩
  show ((2*n+2:Nat):Int)<=((IC.size:Nat):Int)
  omega
def Ja (l:List UInt8):Nat:=l.foldl (λa c=>10*a+(c.toNat - 48)) 0
theorem kx:∀n,n<1000->Ja (gW n).toList=n/\(gW n).size<=3:=by decide+kernel
theorem zS:∀n,n<1000->gW n≠MU:=by decide+kernel
end Go.Proofs.YtkehfflpbpdokaaGreatDoor
namespace Go.Proofs.YtkehfflpbpdokaaGreatDoor
theorem IF {k:Nat}(h:k<4294967296):Kh.wrap (k:Int)=(k:Int):=by
 rw[Ua];exact R5 (by omega) (by omega)
theorem IT {k:Nat}(h:k<18446744073709551616):K7.wrap (k:Int)=(k:Int):=by
 rw[OE];exact R5 (by omega) (by omega)
theorem Hq:∀n:Nat,n<1000->256<=n->(0<=KH.wrap (aZ .u64 (n:Int) 8)/\KH.wrap (aZ .u64 (n:Int) 8)<(dZ.size:Int))/\aZ .i64 (Ke.wrap (Ke.wrap (Ke.wrap ((0:Int)+8)+Ke.wrap ((ca dZ (KH.wrap (aZ .u64 (n:Int) 8)).toNat).toNat:Int))*78913)) 18=(if n<512 then 2 else 3):=by decide+kernel
theorem GL:∀n:Nat,n<256->100<=n->(0<=KH.wrap (n:Int)/\KH.wrap (n:Int)<(dZ.size:Int))/\aZ .i64 (Ke.wrap (Ke.wrap ((0:Int)+Ke.wrap ((ca dZ (KH.wrap (n:Int)).toNat).toNat:Int))*78913)) 18=2:=by decide+kernel
theorem wW:∀n:Nat,n<1000->100<=n->bytesOf [KH.wrap (Kh.wrap (48+((n/100:Nat):Int))),((ca bA (2*(n%100))).toNat:Int),((ca bA (2*(n%100)+1)).toNat:Int)]=gW n:=by decide+kernel
open Go.MapKept
def uV:Nat:=0
def Pw (H:aa):Prop:=bI H ⟨uV,2,none⟩=some (.int .u64 100)/\bI H ⟨uV,3,none⟩=some (.int .u64 1000)
theorem Pw.ext {A B:aa}(h:Pw A)(e:Ext A B):Pw B:=by
 have k:B[uV]?=A[uV]?:=e.same _ (iV h.1) id
 exact⟨(dx k).trans h.1,(dx k).trans h.2⟩
section
variable {H:aa}{n:Nat}
theorem tv {K:Int->aa->Prop}(hw:Pw H)(h1:100<=n)(h2:n<1000)(hK:K 3 H):DJ.sp (n:Int) H K:=by
 refine DJ.of ?_
 unfold DJ.vc
 have fin:∀x:Int,aZ .i64 (Ke.wrap (x*78913)) 18=(if n<512 then 2 else 3)->FO.sp x H λ(nd:Int) H2=>(0<=nd/\nd<((20:Nat):Int))/\ld (af .u64) H2 ((Addr.mk uV 0 none).add (nd.toNat*1)) λ(x:Int)=>Dh.sp (decide ((n:Int)>=x)) H2 λ(r_1:Int) H3=>K (Ke.wrap (nd+r_1)) H3:=λx e=>by
  refine FO.of ?_
  unfold FO.vc
  rw[e]
  by_cases q:n<512
  ·rw[if_pos q]
   refine⟨by decide,100,hw.1,?_⟩
   refine Dh.of ?_
   unfold Dh.vc
   refine aT (by simp;omega) ?_
   exact hK
  ·rw[if_neg q]
   refine⟨by decide,1000,hw.2,?_⟩
   refine Dh.of ?_
   unfold Dh.vc
   refine ax (by simp<;>omega) ?_
   exact hK
 refine Hk.of ?_
 unfold Hk.vc
 refine ax (by simp;omega) (ax (by simp;omega) ?_)
 refine ak (λhc=>?_) (λhc=>?_)
 ·have hc:256<=n:=by
   have:(n:Int)>=256:=of_decide_eq_true hc
   omega
  obtain⟨a,b⟩:=Hq n h2 hc
  exact⟨a,fin _ b⟩
 ·have hc:n<256:=by
   have:¬(n:Int)>=256:=of_decide_eq_false hc
   omega
  obtain⟨a,b⟩:=GL n hc h1
  exact⟨a,fin _ (by rw[b,if_pos (by omega)])⟩
def Br (n:Nat):Array Value:=(((LV 24 (Km .u8 0)).setIfInBounds 3 (.int .u8 ((ca bA (2*(n%100)+1)).toNat:Int))).setIfInBounds 2 (.int .u8 ((ca bA (2*(n%100))).toNat:Int))).setIfInBounds 1 (.int .u8 (KH.wrap (Kh.wrap (48+((n/100:Nat):Int)))))
set_option maxRecDepth 100000 in
theorem CT (n:Nat):(Br n)[1]?=some (.int .u8 (KH.wrap (Kh.wrap (48+((n/100:Nat):Int)))))/\(Br n)[2]?=some (.int .u8 ((ca bA (2*(n%100))).toNat:Int))/\(Br n)[3]?=some (.int .u8 ((ca bA (2*(n%100)+1)).toNat:Int)):=by
 unfold Br
 refine⟨?_,?_,?_⟩
 ·rw[Mw,if_pos rfl,if_pos (by simp)]
 ·rw[Mw,if_neg (by decide),Mw,if_pos rfl,if_pos (by simp)]
 ·rw[Mw,if_neg (by decide),Mw,if_neg (by decide),Mw,if_pos rfl,if_pos (by simp)]
theorem ou {p c:Nat}{K:Unit->aa->Prop}(r:ag H p GA (LV 24 (Km .u8 0)))(h1:100<=n)(h2:n<1000)(hK:∀B,ag B p GA (Br n)->Mod (λx=>x=p) H B->K () B):EX.sp (Sl.mk (some (K0 ⟨p,0,none⟩ 1)) 3 c) (n:Int) H K:=by
 refine EX.of ?_
 unfold EX.vc
 refine av 0 (λ_ z B=>z=((n:Int),(3:Int))/\H=B) ⟨rfl,rfl⟩ ?_
 rintro _ _ _ next _ ⟨rfl,rfl⟩ _
 refine ax rfl ?_
 refine⟨λz B=>z=((3:Int),(n:Int))/\H=B,ax rfl ⟨?_,rfl⟩,?_⟩
 ·rw[IF (by omega)]
 rintro _ _ ⟨rfl,rfl⟩
 have e0:Kh.wrap (KJ (n:Int) 100*2)=((2*(n%100):Nat):Int):=by
  rw[show KJ (n:Int) 100*2=((2*(n%100):Nat):Int) from by rw[show KJ (n:Int) 100=((n%100:Nat):Int) from rfl];omega]
  exact IF (by omega)
 have e1:Kh.wrap (Kh.wrap (KJ (n:Int) 100*2)+1)=((2*(n%100)+1:Nat):Int):=by
  rw[e0,show ((2*(n%100):Nat):Int)+1=((2*(n%100)+1:Nat):Int) from rfl]
  exact IF (by omega)
 have e2:Kh.wrap (Int.tdiv (n:Int) 100)=((n/100:Nat):Int):=by
  rw[show Int.tdiv (n:Int) 100=((n/100:Nat):Int) from rfl]
  exact IF (by omega)
 have hs:bA.size=200:=by decide+kernel
 refine⟨λz B=>z=((1:Int),((n/100:Nat):Int))/\ag B p GA (((LV 24 (Km .u8 0)).setIfInBounds 3 (.int .u8 ((ca bA (2*(n%100)+1)).toNat:Int))).setIfInBounds 2 (.int .u8 ((ca bA (2*(n%100))).toNat:Int)))/\Mod (λx=>x=p) H B,?_,?_⟩
 ·refine aT rfl ?_
  dsimp only
  rw[e1,e0,e2,hs]
  refine⟨⟨by omega,by omega⟩,⟨by omega,by omega⟩,?_⟩
  simp only[aq,add_add]
  refine⟨⟨by decide,by decide⟩,?_⟩
  refine ag.st r (i:=3) (by decide) rfl λB1 r1 m1 z1=>?_
  refine⟨⟨by decide,by decide⟩,?_⟩
  refine ag.st r1 (i:=2) (by simp) rfl λB2 r2 m2 z2=>?_
  refine⟨?_,?_,m1.trans m2⟩
  ·rfl
  ·simpa only[KI] using r2
 ·rintro _ B ⟨rfl,rB,mB⟩
  refine aT rfl ?_
  simp only[aq,add_add]
  refine⟨⟨by decide,by decide⟩,?_⟩
  refine ag.st rB (i:=1) (by simp) rfl λB1 r1 m1 z1=>?_
  exact hK B1 r1 (mB.trans m1)
theorem Bd {K:ByteArray->aa->Prop}(hw:Pw H)(hn:n<1000)(hK:∀B,Ext H B->K (gW n) B):AK.sp (n:Int) H K:=by
 by_cases q:n<100
 ·exact Ez q (hK H (.refl _ _))
 have h1:100<=n:=by omega
 refine AK.of ?_
 unfold AK.vc
 refine EV.of ?_
 unfold EV.vc
 refine DR.of ?_
 unfold DR.vc
 refine aT rfl ?_
 refine ax (by simp<;>omega) ?_
 refine ar λA zA rA eA=>?_
 have rA:ag A H.size GA (LV 24 (Km .u8 0)):=by
  have e:zc Kf GA=LV 24 (Km .u8 0):=by kernel_rfl
  rw[<-e];exact rA
 refine ax (by simp<;>omega) ?_
 rw[IT (by omega)]
 refine tv (hw.ext eA) h1 hn ?_
 have e4:Ke.wrap ((1:Int)+3)=4:=by decide
 rw[e4]
 refine⟨⟨by decide,by decide⟩,⟨by decide,by decide⟩,?_⟩
 refine ou rA h1 hn λB rB mB=>?_
 refine ax (by simp<;>omega) ?_
 refine⟨⟨by decide,by decide⟩,⟨by decide,by decide⟩,?_⟩
 have hI:Ints .u8 B (Sl.mk (some (K0 ⟨H.size,0,none⟩ 1)) 3 23) [KH.wrap (Kh.wrap (48+((n/100:Nat):Int))),((ca bA (2*(n%100))).toNat:Int),((ca bA (2*(n%100)+1)).toNat:Int)]:=by
  refine⟨rfl,λi v hv=>⟨_,rfl,?_⟩⟩
  rw[add_add,bq]
  refine rB.cell ?_
  obtain⟨d1,d2,d3⟩:=CT n
  have hi:i<3:=(List.getElem?_eq_some_iff.1 hv).1
  rcases (by omega:i=0\/i=1\/i=2) with rfl|rfl|rfl
  ·exact d1.trans hv
  ·exact d2.trans hv
  ·exact d3.trans hv
 refine Gy (s:=Sl.mk (some (K0 ⟨H.size,0,none⟩ 1)) 3 23) hI (λx hx=>?_) ?_
 ·simp only[List.mem_cons,List.not_mem_nil,or_false] at hx
  rcases hx with rfl|rfl|rfl
  ·rw[ON]
   exact⟨Int.emod_nonneg _ (by decide),Int.emod_lt_of_pos _ (by decide)⟩
  ·exact⟨by omega,by have:=(ca bA (2*(n%100))).toNat_lt;omega⟩
  ·exact⟨by omega,by have:=(ca bA (2*(n%100)+1)).toNat_lt;omega⟩
 ·rw[wW n hn h1]
  exact hK B (Mod.ext ((Ext.mod eA).trans mB) λb hb=>by omega)
end
end Go.Proofs.YtkehfflpbpdokaaGreatDoor
namespace Go.Proofs.YtkehfflpbpdokaaGreatDoor
open Go.ChangeShapes Go.WideShapes Go.ChangeAt Go.RowKit
def GW (d:DataW Unit):List (DataW Unit):=match d with|.agg l=>l|_=>[]
theorem wM {W:World}(h:laidMetH Kf sv W):Pw W.heap:=by
 rw[PD _ _ _ (by kernel_rfl)] at h
 obtain⟨ps,⟨_,_,_,_,_,_,_,_,_,_,⟨_,_,_,_,_,_,_,_,_,_,⟨g0,t0,cs0,f0,p0,q0,hg0,ht0,hv0,hd0,_,_⟩,_⟩,_⟩,_,_⟩:=h
 obtain rfl:=Kq ((show Kf.globalNamed "internal/strconv.uint64pow10"=some uV by kernel_rfl).symm.trans hg0)
 obtain rfl:=Kq ((show (Kf.globals[uV]?).map (·.type)=some 297 by kernel_rfl).symm.trans ht0)
 obtain⟨xs,m,_,hx,hlen,hn,hel⟩:=RN (n:=20) (e:=iB) (by kernel_rfl) hd0
 have hlit:GW Rows.laid_internal_strconv_uint64pow10=xs.map (·.1):=congrArg GW (QY hx).1
 have one:∀(i:Nat) (w:Int),i<20->(GW Rows.laid_internal_strconv_uint64pow10)[i]?=some (.lit (.int .u64 w))->bI W.heap ⟨uV,i,none⟩=some (.int .u64 w):=by
  intro i w hi hw
  have hi':=hel i hi
  rw[show Kf.cellsOf iB=1 by kernel_rfl,Ld] at hi'
  have hil:i<xs.length:=by omega
  rw[Kg hil] at hi'
  obtain⟨k,e1,e2,_⟩:=R4 (k:=.u64) (by kernel_rfl) hi'
  rw[hlit,KC,Kg hil] at hw
  have ek:k=w:=by
   have:(some (DataW.lit (Lit.int .u64 k)):Option (DataW Unit))=some (.lit (.int .u64 w)):=by rw[<-hw,e2];rfl
   simpa using this
  have hc:=RV hg0 hv0 i
  have hcs:cs0[i]?=some (.int .u64 k):=by
   have h2:((cs0.toList.drop i).take 1)[0]?=some (Km .u64 k):=by rw[e1];rfl
   rw[Lh,if_pos (by decide),Lv,OM] at h2
   simpa using h2
  rw[hcs,ek] at hc
  exact hc
 exact⟨one 2 100 (by decide) rfl,one 3 1000 (by decide) rfl⟩
end Go.Proofs.YtkehfflpbpdokaaGreatDoor
