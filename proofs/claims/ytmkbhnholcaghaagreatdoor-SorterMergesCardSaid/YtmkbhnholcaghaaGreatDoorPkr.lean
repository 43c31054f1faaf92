/-
 What the given statements on relations share: the tables as they are laid.
-/
import Derived.Test.YtmkbhnholcaghaaGreatDoorRows
import Derived.Test.YtmkbhnholcaghaaGreatDoorCards
import Derived.Test.YtmkbhnholcaghaaGreatDoorTie
import Derived.Test.YtmkbhnholcaghaaGreatDoorPgb
import Derived.Test.YtmkbhnholcaghaaGreatDoorFxh
import Derived.LaidMore
import Derived.OpenShut
import Derived.MakeChecks
import Derived.LaidHandle
import Derived.LaidLaws
import Derived.SevenTiedAt
import Derived.Stop.Joined
open Go.DataW.agg renaming inj->Zx
open Go.DataW.lit renaming injEq->Zq
open Go.Lit.int renaming injEq->Zy
open Go.MakeChecks renaming laidMetH_plain->Ww
open Go.Proofs.Tryz renaming prog->Oj
open List renaming getElem?_eq_getElem->On,getElem?_map->Oy
open Option.some renaming inj->OS
namespace Go.Proofs.YtmkbhnholcaghaaGreatDoor
open Go.ChangeShapes Go.WideShapes Go.ChangeAt Go.RowKit
theorem Cp:ownKnob Oj.godebug=none:=by kernel_rfl
theorem tR:laidOutB Oj=true:=by kernel_rfl
def yz:List (String×DataW Unit):=[("math/bits.deBruijn32tab",Rows.laid_math_bits_deBruijn32tab),("math/bits.deBruijn64tab",Rows.laid_math_bits_deBruijn64tab),("internal/strconv.uint64pow10",Rows.laid_internal_strconv_uint64pow10),("fathom/page.steps",Rows.laid_fathom_page_steps)]
def ID:List (DataW Unit):=nL.map λb=>.lit (.int .u32 (b.toNat:Int))
theorem HZ:(Rows.laid_fathom_page_steps:DataW Unit)=.agg ID:=by rfl
theorem AI {W:World}(h:laidMetH Oj yz W):Gl W.heap:=by
 rw[Ww _ _ _ (by kernel_rfl)] at h;obtain⟨ps,⟨_,_,_,_,_,_,_,_,_,_,⟨_,_,_,_,_,_,_,_,_,_,⟨_,_,_,_,_,_,_,_,_,_,⟨g0,t0,c,f0,z,A,d,j,l,o,_,_⟩,_⟩,_⟩,_⟩,_,_⟩:=h;obtain rfl:=OS ((show Oj.globalNamed "fathom/page.steps"=some bh by kernel_rfl).symm.trans d);obtain rfl:=OS ((show (Oj.globals[bh]?).map (·.type)=some 296 by kernel_rfl).symm.trans j);obtain⟨xs,m,_,u,hlen,B,p⟩:=DataW.trod_array (n:=16) (e:=256) (by kernel_rfl) o;have f:ID=xs.map (·.1):=by
  have h1:(Rows.laid_fathom_page_steps:DataW Unit)=.agg (xs.map (·.1)):=(Prod.mk.inj u).1;rw[HZ] at h1;exact Zx h1
 intro i hi;have a:=p i hi;rw[show Oj.cellsOf 256=1 by kernel_rfl,Nat.mul_one] at a;have g:i<xs.length:=by omega
 rw[On g] at a;obtain⟨k,v,e2,_⟩:=DataW.trod_int (k:=.u32) (by kernel_rfl) a;have hk:ID[i]?=some (.lit (.int .u32 k)):=by rw[f,Oy,On g,e2];rfl
 unfold ID at hk;rw[Oy] at hk;obtain⟨b,w,x⟩:=Option.map_eq_some_iff.1 hk;have y:k=(b.toNat:Int):=by
  have:=x;simp only[Zq,Zy,true_and] at this;exact this.symm
 have q:nL.getD i 0#32=b:=by simp[List.getD,w]
 rw[q,<-y];have s:=World.var?_cell d l i;have r:c[i]?=some (.int .u32 k):=by
  have t:((c.toList.drop i).take 1)[0]?=some (Value.int .u32 k):=by rw[v];rfl
  rw[List.getElem?_take,if_pos (by decide),List.getElem?_drop,Nat.add_zero] at t;simpa using t
 rw[r] at s;exact s
theorem Gf (os:Os)(args:Array Value):laidMetH Oj yz ((World.doorLaid Oj 400 os).forCall (λ_ _=>0) ⟨#[],args,[]⟩).memory:=
 laidMetH_of_parts3 (fuel:=8) (laidMet_of_run' 8 (by kernel_rfl) (by kernel_rfl)) (by kernel_rfl) (by kernel_rfl)
end Go.Proofs.YtmkbhnholcaghaaGreatDoor
