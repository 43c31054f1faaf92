/-
 What the given statements on the pool share: the table of steps as it is laid.
-/
import Derived.Test.YtdpdmbceakdlmaaGreatDoorRows
import Derived.Test.YtdpdmbceakdlmaaGreatDoorCards
import Derived.Test.YtdpdmbceakdlmaaGreatDoorTie
import Derived.Test.YtdpdmbceakdlmaaGreatDoorPgb
import Derived.Test.YtdpdmbceakdlmaaGreatDoorFxh
import Derived.LaidMore
import Derived.OpenShut
import Derived.MakeChecks
import Derived.LaidHandle
import Derived.LaidLaws
import Derived.SevenTiedAt
import Derived.Stop.Joined
open Go.DataW.agg renaming inj->UC
open Go.DataW.lit renaming injEq->Uv
open Go.Lit.int renaming injEq->UD
open Go.MakeChecks renaming laidMetH_plain->R3
open Go.Proofs.Tryz renaming prog->KE
open List renaming getElem?_eq_getElem->KJ,getElem?_map->Le
open Option.some renaming inj->K1
namespace Go.Proofs.YtdpdmbceakdlmaaGreatDoor
open Go.ChangeShapes Go.WideShapes Go.ChangeAt Go.RowKit
theorem Aw:ownKnob KE.godebug=none:=by kernel_rfl
theorem rT:laidOutB KE=true:=by kernel_rfl
def vh:List (String×DataW Unit):=[("fathom/page.steps",Rows.laid_fathom_page_steps)]
def Ex:List (DataW Unit):=mc.map λb=>.lit (.int .u32 (b.toNat:Int))
theorem FX:(Rows.laid_fathom_page_steps:DataW Unit)=.agg Ex:=by rfl
theorem yE {W:World}(h:laidMetH KE vh W):Gl W.heap:=by
 rw[R3 _ _ _ (by kernel_rfl)] at h
 obtain⟨ps,⟨g0,t0,cs0,f0,p0,q0,hg0,ht0,hv0,hd0,_,_⟩,_,_⟩:=h
 obtain rfl:=K1 ((show KE.globalNamed "fathom/page.steps"=some bx by kernel_rfl).symm.trans hg0)
 obtain rfl:=K1 ((show (KE.globals[bx]?).map (·.type)=some 237 by kernel_rfl).symm.trans ht0)
 obtain⟨xs,m,_,hx,hlen,hn,hel⟩:=DataW.trod_array (n:=16) (e:=212) (by kernel_rfl) hd0
 have hlit:Ex=xs.map (·.1):=by
  have h1:(Rows.laid_fathom_page_steps:DataW Unit)=.agg (xs.map (·.1)):=(Prod.mk.inj hx).1
  rw[FX] at h1
  exact UC h1
 intro i hi
 have hi':=hel i hi
 rw[show KE.cellsOf 212=1 by kernel_rfl,Nat.mul_one] at hi'
 have hil:i<xs.length:=by omega
 rw[KJ hil] at hi'
 obtain⟨k,e1,e2,_⟩:=DataW.trod_int (k:=.u32) (by kernel_rfl) hi'
 have hk:Ex[i]?=some (.lit (.int .u32 k)):=by rw[hlit,Le,KJ hil,e2];rfl
 unfold Ex at hk
 rw[Le] at hk
 obtain⟨b,hb,eb⟩:=Option.map_eq_some_iff.1 hk
 have ek:k=(b.toNat:Int):=by
  have:=eb
  simp only[Uv,UD,true_and] at this
  exact this.symm
 have hgd:mc.getD i 0#32=b:=by simp[List.getD,hb]
 rw[hgd,<-ek]
 have hc:=World.var?_cell hg0 hv0 i
 have hcs:cs0[i]?=some (.int .u32 k):=by
  have h2:((cs0.toList.drop i).take 1)[0]?=some (Value.int .u32 k):=by rw[e1];rfl
  rw[List.getElem?_take,if_pos (by decide),List.getElem?_drop,Nat.add_zero] at h2
  simpa using h2
 rw[hcs] at hc
 exact hc
theorem BG (os:Os)(args:Array Value):laidMetH KE vh ((World.doorLaid KE 400 os).forCall (λ_ _=>0) ⟨#[],args,[]⟩).memory:=
 laidMetH_of_parts3 (fuel:=8) (laidMet_of_run' 8 (by kernel_rfl) (by kernel_rfl)) (by kernel_rfl) (by kernel_rfl)
end Go.Proofs.YtdpdmbceakdlmaaGreatDoor
