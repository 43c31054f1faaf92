/-
 The disk: Remove, Rename, Crash.
-/
import Derived.Test.YtmkbhnholcaghaaGreatDoorDkc
open Option.some renaming injEq->Pj
open Prod.mk renaming injEq->Pp
namespace Go.Proofs.YtmkbhnholcaghaaGreatDoor
open Go.MapKept
theorem Dv {F:Nat->Prop}{d:Nat}{s:Dk}{H:aa}{n:ByteArray}{K:Int->aa->Prop}(h:bo F H d s)
  (c:∀F' H',bo F' H' d (s.remove n).1->Step F F' H H'->K (s.remove n).2 H'):JW.sp (aE d) n H K:=by
 have u:=h;obtain⟨x,cin,kp,g,k⟩:=h;refine JW.of ?_;unfold JW.vc;have stay:∀e:Int,s.remove n=(s,e)->K e H:=by
  intro e he;have:=c F H (by rw[he];exact u) (.refl _ _);rw[he] at this;exact this
 refine oo g (λhd=>?_) (λhd v=>?_) (λi f B hd hi C D E w=>?_)
 ·exact stay 4 (by unfold Dk.remove;rw[hd];rfl)
 ·exact stay 11 (by unfold Dk.remove;rw[hd,v];rfl)
 ·refine aC rfl ?_;have y:s.remove n=s.step λt=>t.drop n:=by unfold Dk.remove;rw[hd,hi];rfl
  rw[y] at c;unfold Dk.step at c;refine nf g λr z g3 m3 G=>?_;refine ag (λl=>?_) (λl=>?_)
  ·have a:s.change.2=0:=by simpa using l
   rw[if_pos a] at c;rw[a];have m:s.change.1.idx n=some i:=by unfold Dk.idx;rw[s.bm];exact hi
   refine Ir g3 (λh1=>by rw[m] at h1;cases h1) λj A H' I g4 m4 J=>?_;obtain⟨F',o,p⟩:=g4.out (x:=x) (F:=F) (H:=H) k ((m3.mono λb _ e=>(k b).2 (.inl e)).trans (m4.mono λb _ e=>(k b).2 (by rcases e with e|e;exact .inl e;exact .inr (.inl e)))) (λb q=>.inl (wo b q));exact c F' H' o p
  ·have a:s.change.2≠0:=by simpa using l
   rw[if_neg a] at c;obtain⟨F',o,p⟩:=g3.out (x:=x) (F:=F) (H:=H) k (m3.mono λb _ e=>(k b).2 (.inl e)) (λb q=>.inl q);exact c F' z o p
theorem Gz {F:Nat->Prop}{d:Nat}{s:Dk}{H:aa}{i k:Int}{K:Unit->aa->Prop}(h:bo F H d s)(hi:i<=9223372036854775807)
  (a:∀F' H',bo F' H' d (s.db i k)->Step F F' H H'->K () H'):Kz.sp (aE d) i k H K:=by
 have l:=h;obtain⟨x,cin,kp,g,c⟩:=h;refine Kz.of ?_;unfold Kz.vc;simp only[al];refine lR g.head (down:=s.down) rfl ?_;cases hd:s.down with
 |true=>
   refine aC rfl (a F H ?_ (.refl _ _));have:s.db i k=s:=by unfold Dk.db;rw[hd];rfl
   rw[this];exact l
 |false=>
   refine aP rfl ?_;have m:s.db i k={s with crash:=some (max i 0,k)}:=by unfold Dk.db;rw[hd];rfl
   refine je (b:=d) (o:=6) (t:=xB) g.head (by kernel_rfl) (by simp[fm]) (by intro v f;simp at f;rcases f with rfl|rfl|rfl<;>rfl) λH' r' j s'=>?_;have e:(if (0:Int)>i then (0:Int) else i)=max i 0:=by split<;>omega
   rw[e] at r';have n:dj x (max i 0) k H' d (s.db i k):=by
    rw[m];refine g.dq (s':={s with crash:=some (max i 0,k)}) r' j rfl (by intro p r q;simp only[Pj,Pp] at q;exact q) ⟨g.wf.nodup,g.wf.used,g.wf.most,g.wf.quota,g.wf.files,λ_=>rfl,?_⟩;intro p r q;simp only[Pj,Pp] at q;obtain⟨rfl,rfl⟩:=q;omega
   obtain⟨F',u,w⟩:=n.out (x:=x) (F:=F) (H:=H) c (j.mono λb _ e=>(c b).2 (.inl e)) (λb q=>.inl q);exact a F' H' u w
end Go.Proofs.YtmkbhnholcaghaaGreatDoor
