/-
 The disk: copies of pages, Sync, a page put, Write.
-/
import Derived.Test.YtkehfflpbpdokaaGreatDoorDkd
open Go.Proofs.Tryz renaming prog->Qf
namespace Go.Proofs.YtkehfflpbpdokaaGreatDoor
open Go.MapKept
theorem KQ:IG Qf N8 Bd Bi.size 512:=tH (by kernel_rfl)
theorem Ng:IG Qf NW JB NL.size 528:=tH (by kernel_rfl)
theorem FK:(zc Qf Bd).toList=Bi.enc OA:=by kernel_rfl
theorem Mc {l:Sl}{ps:List Pg}{ag:Nat}{no:Int}{b:Pg}{H:aa}{K:Sl->aa->Prop}(h:dm Bi Bd H l ps)(hlen:ps.length<=2097152)(f:ag<2097152)
  (r:∀g H',dm Bi Bd H' g (vu ps ⟨no,ag,b⟩)->Grown l g H H'->K g H'):KS.sp l ag (jo b.1).toArray H K:=by
 refine KS.of ?_;unfold KS.vc;refine aj λH1 s1 s m1=>?_;have d:=h.lt;refine⟨Nat,λk a e=>dm Bi Bd e a (ps++List.replicate k OA)/\k<=ag+1 - ps.length/\Mod (al l) H1 e/\(∀b,al a b->al l b\/H1.size<=b),λk=>ag+1 - ps.length - k,⟨0,by simpa using aA.ext h m1,Nat.zero_le _,.refl _ _,λb j=>.inl j⟩,?_⟩;rintro k a e ⟨o2,hk,m2,f2⟩;have v:a.n=ps.length+k:=by rw[dm.n o2 (by decide)];simp
 refine ao (λm=>?_) (λm=>?_)
 ·have n:a.n<=ag:=by simpa using m
  refine dm.Ob (E:=Bi) KQ (x:=OA) (cs:=zc Qf Bd) o2 FK (by decide) (by simp;omega) (by simp;omega) λw H' p g' _=>?_;refine⟨k+1,⟨?_,by omega,?_,?_⟩,by show _ - _<_ - _;omega⟩
  ·rw[List.append_assoc,<-List.replicate_succ'] at p;exact p
  ·grind [Mod]
  ·grind [Mod]
 ·have n:ag<a.n:=by simpa using m
  have t:ab e H.size Bd (jo b.1).toArray:=s.mod m2 (λj=>by have:=d _ j;omega);refine t.kN (c:=rU) (x:=(jo b.1).toArray) rfl (by simp[jo,b.2]) ?_;obtain⟨ad,q⟩:=tM.addr o2.rd (by decide) (by simp;omega);rw[q];refine⟨⟨by omega,by omega⟩,?_⟩;refine dm.OT (E:=Bi) o2 q (i:=ag) (y:=b) (by simp;omega) (by simp[Bi]) (by kernel_rfl) (by simp[Bi]) λu o3 m3 z=>?_;have o:k=ag+1 - ps.length:=by omega
  refine r a u (by unfold vu;rw[<-o];exact o3) ⟨?_,?_⟩
  ·grind [Mod]
  ·grind [Mod]
end Go.Proofs.YtkehfflpbpdokaaGreatDoor
