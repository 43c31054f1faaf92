/-
 What the given statements on the pool share: the table of steps as it is laid.
-/
import Derived.Test.YtdpdmbceakdlmaaGreatDoorRows
import Derived.Test.YtdpdmbceakdlmaaGreatDoorCards
import Derived.Test.YtdpdmbceakdlmaaGreatDoorTie
import Derived.Test.YtdpdmbceakdlmaaGreatDoorPgb
import Derived.Test.YtdpdmbceakdlmaaGreatDoorFxh
import Derived.LaidMore
import Derived.OpenShut
import Derived.MakeChecks
import Derived.LaidHandle
import Derived.LaidLaws
import Derived.SevenTiedAt
import Derived.Stop.Joined
namespace Go.Proofs.YtdpdmbceakdlmaaGreatDoor
open Go.ChangeShapes Go.WideShapes Go.ChangeAt Go.RowKit
theorem xw:ownKnob Tryz.prog.godebug=none:=by kernel_rfl
theorem qc:laidOutB Tryz.prog=true:=by kernel_rfl
def uo:List (String×DataW Unit):=[("fathom/page.steps",Rows.laid_fathom_page_steps)]
def CP:List (DataW Unit):=kD.map fun b=>.lit (.int .u32 (b.toNat:Int))
theorem Dq:(Rows.laid_fathom_page_steps:DataW Unit)=.agg CP:=by rfl
theorem vS {W:World} (h:laidMetH Tryz.prog uo W):Gl W.heap:=by
 rw[MakeChecks.laidMetH_plain _ _ _ (by kernel_rfl)] at h
 obtain⟨ps,⟨g0,t0,cs0,f0,p0,q0,hg0,ht0,hv0,hd0,_,_⟩,_,_⟩:=h
 obtain rfl:=Option.some.inj ((show Tryz.prog.globalNamed "fathom/page.steps"=some bo by kernel_rfl).symm.trans hg0)
 obtain rfl:=Option.some.inj ((show (Tryz.prog.globals[bo]?).map (·.type)=some 237 by kernel_rfl).symm.trans ht0)
 obtain⟨xs,m,_,hx,hlen,hn,hel⟩:=DataW.trod_array (n:=16) (e:=212) (by kernel_rfl) hd0
 have hlit:CP=xs.map (·.1):=by
  have h1:(Rows.laid_fathom_page_steps:DataW Unit)=.agg (xs.map (·.1)):=(Prod.mk.inj hx).1
  rw[Dq] at h1
  exact DataW.agg.inj h1
 intro i hi
 have hi':=hel i hi
 rw[show Tryz.prog.cellsOf 212=1 by kernel_rfl,Nat.mul_one] at hi'
 have hil:i<xs.length:=by omega
 rw[List.getElem?_eq_getElem hil] at hi'
 obtain⟨k,e1,e2,_⟩:=DataW.trod_int (k:=.u32) (by kernel_rfl) hi'
 have hk:CP[i]?=some (.lit (.int .u32 k)):=by rw[hlit,List.getElem?_map,List.getElem?_eq_getElem hil,e2];rfl
 unfold CP at hk
 rw[List.getElem?_map] at hk
 obtain⟨b,hb,eb⟩:=Option.map_eq_some_iff.1 hk
 have ek:k=(b.toNat:Int):=by
  have:=eb
  simp only[DataW.lit.injEq,Lit.int.injEq,true_and] at this
  exact this.symm
 have hgd:kD.getD i 0#32=b:=by simp[List.getD,hb]
 rw[hgd,←ek]
 have hc:=World.var?_cell hg0 hv0 i
 have hcs:cs0[i]?=some (.int .u32 k):=by
  have h2:((cs0.toList.drop i).take 1)[0]?=some (Value.int .u32 k):=by rw[e1];rfl
  rw[List.getElem?_take,if_pos (by decide),List.getElem?_drop,Nat.add_zero] at h2
  simpa using h2
 rw[hcs] at hc
 exact hc
theorem AR (os:Os) (args:Array Value):laidMetH Tryz.prog uo ((World.doorLaid Tryz.prog 400 os).forCall (fun _ _=>0) ⟨#[],args,[]⟩).memory:=
 laidMetH_of_parts3 (fuel:=8) (laidMet_of_run' 8 (by kernel_rfl) (by kernel_rfl)) (by kernel_rfl) (by kernel_rfl)
end Go.Proofs.YtdpdmbceakdlmaaGreatDoor
