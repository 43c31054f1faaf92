/-
 The disk: Remove, Rename, Crash.
-/
import Derived.Test.YtdpdmbceakdlmaaGreatDoorDkc
namespace Go.Proofs.YtdpdmbceakdlmaaGreatDoor
open Go.MapKept
theorem Ae {F:Nat→Prop} {d:Nat} {s:Dk} {H:Heap} {i k:Int} {K:Unit→Heap→Prop} (h:bf F H d s) (hi:i≤9223372036854775807)
  (hK:∀F' H',bf F' H' d (s.cc i k)→Step F F' H H'→K () H'):DV.sp (ay d) i k H K:=by
 have h0:=h
 obtain⟨x,cin,kp,g,hF⟩:=h
 refine DV.of ?_
 unfold DV.vc
 simp only[ak]
 refine jA g.head (down:=s.down) rfl ?_
 cases hd:s.down with
 |true=>
   refine ar rfl (hK F H ?_ (.refl _ _))
   have:s.cc i k=s:=by unfold Dk.cc;rw[hd];rfl
   rw[this];exact h0
 |false=>
   refine aU rfl ?_
   have hc:s.cc i k={s with crash:=some (max i 0,k)}:=by unfold Dk.cc;rw[hd];rfl
   refine gR (b:=d) (o:=6) (t:=ue) g.head (by kernel_rfl) (by simp[dS]) (by intro v hv;simp at hv;rcases hv with rfl|rfl|rfl<;>rfl) fun H' r' m' s'=>?_
   have e:(if (0:Int)>i then (0:Int) else i)=max i 0:=by split<;>omega
   rw[e] at r'
   have gg:dg x (max i 0) k H' d (s.cc i k):=by
    rw[hc]
    refine g.aZ (s':={s with crash:=some (max i 0,k)}) r' m' rfl (by intro i' k' q;simp only[Option.some.injEq,Prod.mk.injEq] at q;exact q) ⟨g.wf.nodup,g.wf.used,g.wf.most,g.wf.quota,g.wf.files,fun _=>rfl,?_⟩
    intro i' k' q
    simp only[Option.some.injEq,Prod.mk.injEq] at q
    obtain⟨rfl,rfl⟩:=q
    omega
   obtain⟨F',q1,q2⟩:=gg.out (x:=x) (F:=F) (H:=H) hF (m'.mono fun b _ e=>(hF b).2 (.inl e)) (fun b q=>.inl q)
   exact hK F' H' q1 q2
end Go.Proofs.YtdpdmbceakdlmaaGreatDoor
