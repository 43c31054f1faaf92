/-
 The disk: Remove, Rename, Crash.
-/
import Derived.Test.YtkehfflpbpdokaaGreatDoorDkc
namespace Go.Proofs.YtkehfflpbpdokaaGreatDoor
open Go.MapKept
theorem yX {F:Nat->Prop}{d:Nat}{s:Dk}{H:aa}{n:ByteArray}{K:Int->aa->Prop}(h:bN F H d s)
  (hK:∀F' H',bN F' H' d (s.remove n).1->Step F F' H H'->K (s.remove n).2 H'):FF.sp (aD d) n H K:=by
 have h0:=h
 obtain⟨x,cin,kp,g,hF⟩:=h
 refine FF.of ?_
 unfold FF.vc
 have stay:∀e:Int,s.remove n=(s,e)->K e H:=by
  intro e he
  have:=hK F H (by rw[he];exact h0) (.refl _ _)
  rw[he] at this;exact this
 refine oM g (λhd=>?_) (λhd hN=>?_) (λi f gf hd hi hf hn hg hFl=>?_)
 ·exact stay 4 (by unfold Dk.remove;rw[hd];rfl)
 ·exact stay 11 (by unfold Dk.remove;rw[hd,hN];rfl)
 ·refine ax rfl ?_
  have hr:s.remove n=s.step λt=>t.drop n:=by unfold Dk.remove;rw[hd,hi];rfl
  rw[hr] at hK
  unfold Dk.step at hK
  refine mR g λcin' H3 g3 m3 s3=>?_
  refine ak (λhz=>?_) (λhz=>?_)
  ·have hz':s.change.2=0:=by simpa using hz
   rw[if_pos hz'] at hK
   rw[hz']
   have hi3:s.change.1.idx n=some i:=by unfold Dk.idx;rw[s.dD];exact hi
   refine Eo g3 (λh1=>by rw[hi3] at h1;cases h1) λj es' H' hj g4 m4 s4=>?_
   obtain⟨F',q1,q2⟩:=g4.out (x:=x) (F:=F) (H:=H) hF ((m3.mono λb _ e=>(hF b).2 (.inl e)).trans (m4.mono λb _ e=>(hF b).2 (by rcases e with e|e;exact .inl e;exact .inr (.inl e)))) (λb q=>.inl (tO b q))
   exact hK F' H' q1 q2
  ·have hz':s.change.2≠0:=by simpa using hz
   rw[if_neg hz'] at hK
   obtain⟨F',q1,q2⟩:=g3.out (x:=x) (F:=F) (H:=H) hF (m3.mono λb _ e=>(hF b).2 (.inl e)) (λb q=>.inl q)
   exact hK F' H3 q1 q2
end Go.Proofs.YtkehfflpbpdokaaGreatDoor
