/-
 What the given statements on relations share: the tables as they are laid.
-/
import Derived.Test.YtmkbhnholcaghaaGreatDoorRows
import Derived.Test.YtmkbhnholcaghaaGreatDoorCards
import Derived.Test.YtmkbhnholcaghaaGreatDoorTie
import Derived.Test.YtmkbhnholcaghaaGreatDoorPgb
import Derived.Test.YtmkbhnholcaghaaGreatDoorFxh
import Derived.LaidMore
import Derived.OpenShut
import Derived.MakeChecks
import Derived.LaidHandle
import Derived.LaidLaws
import Derived.SevenTiedAt
import Derived.Stop.Joined
open Go.DataW.agg renaming inj->Zk
open Go.DataW.lit renaming injEq->Zd
open Go.Lit.int renaming injEq->Zl
open Go.MakeChecks renaming laidMetH_plain->Wi
open Go.Proofs.Tryz renaming prog->N5
open List renaming getElem?_eq_getElem->N8,getElem?_map->Oi
open Option.some renaming inj->OE
namespace Go.Proofs.YtmkbhnholcaghaaGreatDoor
open Go.ChangeShapes Go.WideShapes Go.ChangeAt Go.RowKit
theorem Cb:ownKnob N5.godebug=none:=by kernel_rfl
theorem tI:laidOutB N5=true:=by kernel_rfl
def yk:List (String×DataW Unit):=[("math/bits.deBruijn32tab",Rows.laid_math_bits_deBruijn32tab),("math/bits.deBruijn64tab",Rows.laid_math_bits_deBruijn64tab),("internal/strconv.uint64pow10",Rows.laid_internal_strconv_uint64pow10),("fathom/page.steps",Rows.laid_fathom_page_steps)]
def Ix:List (DataW Unit):=nz.map λb=>.lit (.int .u32 (b.toNat:Int))
theorem HS:(Rows.laid_fathom_page_steps:DataW Unit)=.agg Ix:=by rfl
theorem Av {W:World}(h:laidMetH N5 yk W):Gl W.heap:=by
 rw[Wi _ _ _ (by kernel_rfl)] at h;obtain⟨ps,⟨_,_,_,_,_,_,_,_,_,_,⟨_,_,_,_,_,_,_,_,_,_,⟨_,_,_,_,_,_,_,_,_,_,⟨g0,t0,c,f0,z,A,d,j,l,o,_,_⟩,_⟩,_⟩,_⟩,_,_⟩:=h;obtain rfl:=OE ((show N5.globalNamed "fathom/page.steps"=some bh by kernel_rfl).symm.trans d);obtain rfl:=OE ((show (N5.globals[bh]?).map (·.type)=some 296 by kernel_rfl).symm.trans j);obtain⟨xs,m,_,u,hlen,B,p⟩:=DataW.trod_array (n:=16) (e:=256) (by kernel_rfl) o;have f:Ix=xs.map (·.1):=by
  have h1:(Rows.laid_fathom_page_steps:DataW Unit)=.agg (xs.map (·.1)):=(Prod.mk.inj u).1;rw[HS] at h1;exact Zk h1
 intro i hi;have a:=p i hi;rw[show N5.cellsOf 256=1 by kernel_rfl,Nat.mul_one] at a;have g:i<xs.length:=by omega
 rw[N8 g] at a;obtain⟨k,v,e2,_⟩:=DataW.trod_int (k:=.u32) (by kernel_rfl) a;have hk:Ix[i]?=some (.lit (.int .u32 k)):=by rw[f,Oi,N8 g,e2];rfl
 unfold Ix at hk;rw[Oi] at hk;obtain⟨b,w,x⟩:=Option.map_eq_some_iff.1 hk;have y:k=(b.toNat:Int):=by
  have:=x;simp only[Zd,Zl,true_and] at this;exact this.symm
 have q:nz.getD i 0#32=b:=by simp[List.getD,w]
 rw[q,<-y];have s:=World.var?_cell d l i;have r:c[i]?=some (.int .u32 k):=by
  have t:((c.toList.drop i).take 1)[0]?=some (Value.int .u32 k):=by rw[v];rfl
  rw[List.getElem?_take,if_pos (by decide),List.getElem?_drop,Nat.add_zero] at t;simpa using t
 rw[r] at s;exact s
theorem FU (os:Os)(args:Array Value):laidMetH N5 yk ((World.doorLaid N5 400 os).forCall (λ_ _=>0) ⟨#[],args,[]⟩).memory:=
 laidMetH_of_parts3 (fuel:=8) (laidMet_of_run' 8 (by kernel_rfl) (by kernel_rfl)) (by kernel_rfl) (by kernel_rfl)
end Go.Proofs.YtmkbhnholcaghaaGreatDoor
