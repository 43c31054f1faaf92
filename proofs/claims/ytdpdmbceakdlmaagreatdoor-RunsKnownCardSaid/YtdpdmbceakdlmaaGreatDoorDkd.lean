/-
 The disk: Remove, Rename, Crash.
-/
import Derived.Test.YtdpdmbceakdlmaaGreatDoorDkc
open Option.some renaming injEq->LC
open Prod.mk renaming injEq->Lw
namespace Go.Proofs.YtdpdmbceakdlmaaGreatDoor
open Go.MapKept
theorem Cb {F:Nat->Prop}{d:Nat}{s:Dk}{H:Heap}{i k:Int}{K:Unit->Heap->Prop}(h:bj F H d s)(hi:i<=9223372036854775807)
  (hK:∀F' H',bj F' H' d (s.cD i k)->Step F F' H H'->K () H'):HA.sp (aD d) i k H K:=by
 have h0:=h
 obtain⟨x,cin,kp,g,hF⟩:=h
 refine HA.of ?_
 unfold HA.vc
 simp only[aq]
 refine kx g.head (down:=s.down) rfl ?_
 cases hd:s.down with
 |true=>
   refine aw rfl (hK F H ?_ (.refl _ _))
   have:s.cD i k=s:=by unfold Dk.cD;rw[hd];rfl
   rw[this];exact h0
 |false=>
   refine aP rfl ?_
   have hc:s.cD i k={s with crash:=some (max i 0,k)}:=by unfold Dk.cD;rw[hd];rfl
   refine iR (b:=d) (o:=6) (t:=wE) g.head (by kernel_rfl) (by simp[eW]) (by intro v hv;simp at hv;rcases hv with rfl|rfl|rfl<;>rfl) λH' r' m' s'=>?_
   have e:(if (0:Int)>i then (0:Int) else i)=max i 0:=by split<;>omega
   rw[e] at r'
   have gg:dJ x (max i 0) k H' d (s.cD i k):=by
    rw[hc]
    refine g.bf (s':={s with crash:=some (max i 0,k)}) r' m' rfl (by intro i' k' q;simp only[LC,Lw] at q;exact q) ⟨g.wf.nodup,g.wf.used,g.wf.most,g.wf.quota,g.wf.files,λ_=>rfl,?_⟩
    intro i' k' q
    simp only[LC,Lw] at q
    obtain⟨rfl,rfl⟩:=q
    omega
   obtain⟨F',q1,q2⟩:=gg.out (x:=x) (F:=F) (H:=H) hF (m'.mono λb _ e=>(hF b).2 (.inl e)) (λb q=>.inl q)
   exact hK F' H' q1 q2
end Go.Proofs.YtdpdmbceakdlmaaGreatDoor
