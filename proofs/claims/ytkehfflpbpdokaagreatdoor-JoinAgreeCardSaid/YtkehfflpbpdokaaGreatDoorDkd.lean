/-
 The disk: Remove, Rename, Crash.
-/
import Derived.Test.YtkehfflpbpdokaaGreatDoorDkc
namespace Go.Proofs.YtkehfflpbpdokaaGreatDoor
open Go.MapKept
theorem Em {F:Nat->Prop}{d:Nat}{s:Dk}{H:aa}{n:ByteArray}{K:Int->aa->Prop}(h:cC F H d s)
  (c:∀F' H',cC F' H' d (s.remove n).1->Step F F' H H'->K (s.remove n).2 H'):Lp.sp (av d) n H K:=by
 have r:=h;obtain⟨x,cin,kp,g,k⟩:=h;refine Lp.of ?_;unfold Lp.vc;have stay:∀e:Int,s.remove n=(s,e)->K e H:=by
  intro e he;have:=c F H (by rw[he];exact r) (.refl _ _);rw[he] at this;exact this
 refine sj g (λhd=>?_) (λhd u=>?_) (λi f z hd hi A B C v=>?_)
 ·exact stay 4 (by unfold Dk.remove;rw[hd];rfl)
 ·exact stay 11 (by unfold Dk.remove;rw[hd,u];rfl)
 ·refine az rfl ?_;have hr:s.remove n=s.step λt=>t.drop n:=by unfold Dk.remove;rw[hd,hi];rfl
  rw[hr] at c;unfold Dk.step at c;refine ql g λp w g3 m3 D=>?_;refine ao (λhz=>?_) (λhz=>?_)
  ·have a:s.change.2=0:=by simpa using hz
   rw[if_pos a] at c;rw[a];have l:s.change.1.idx n=some i:=by unfold Dk.idx;rw[s.fC];exact hi
   refine Jf g3 (λh1=>by rw[l] at h1;cases h1) λj y H' E g4 m4 G=>?_;obtain⟨F',m,o⟩:=g4.out (x:=x) (F:=F) (H:=H) k ((m3.mono λb _ e=>(k b).2 (.inl e)).trans (m4.mono λb _ e=>(k b).2 (by rcases e with e|e;exact .inl e;exact .inr (.inl e)))) (λb q=>.inl (xP b q));exact c F' H' m o
  ·have a:s.change.2≠0:=by simpa using hz
   rw[if_neg a] at c;obtain⟨F',m,o⟩:=g3.out (x:=x) (F:=F) (H:=H) k (m3.mono λb _ e=>(k b).2 (.inl e)) (λb q=>.inl q);exact c F' w m o
end Go.Proofs.YtkehfflpbpdokaaGreatDoor
