/-
 The disk: copies of pages, Sync, a page put, Write.
-/
import Derived.Test.YtkehfflpbpdokaaGreatDoorDkd
open Go.Proofs.Tryz renaming prog->Kf
namespace Go.Proofs.YtkehfflpbpdokaaGreatDoor
open Go.MapKept
theorem DT:Dq Kf HY xo xI.size 512:=qg (by kernel_rfl)
theorem Gp:Dq Kf Iv Ek HX.size 528:=qg (by kernel_rfl)
theorem Ct:(zc Kf xo).toList=xI.enc ID:=by kernel_rfl
theorem He {l:Sl}{ps:List Pg}{ab:Nat}{no:Int}{b:Pg}{H:aa}{K:Sl->aa->Prop}(h:cw xI xo H l ps)(hlen:ps.length<=2097152)(hpage:ab<2097152)
  (hK:∀l' H',cw xI xo H' l' (qW ps ⟨no,ab,b⟩)->Grown l l' H H'->K l' H'):FE.sp l ab (gO b.1).toArray H K:=by
 refine FE.of ?_
 unfold FE.vc
 refine ar λH1 s1 r1 m1=>?_
 have own0:=h.lt
 refine⟨Nat,λk l1 H2=>cw xI xo H2 l1 (ps++List.replicate k ID)/\k<=ab+1 - ps.length/\Mod (ai l) H1 H2/\(∀b,ai l1 b->ai l b\/H1.size<=b),λk=>ab+1 - ps.length - k,⟨0,by simpa using az.ext h m1,Nat.zero_le _,.refl _ _,λb hb=>.inl hb⟩,?_⟩
 rintro k l1 H2 ⟨o2,hk,m2,f2⟩
 have hn:l1.n=ps.length+k:=by rw[cw.n o2 (by decide)];simp
 refine ak (λhc=>?_) (λhc=>?_)
 ·have hc':l1.n<=ab:=by simpa using hc
  refine cw.Ij (E:=xI) DT (x:=ID) (cs:=zc Kf xo) o2 Ct (by decide) (by simp;omega) (by simp;omega) λs' H' o' g' _=>?_
  refine⟨k+1,⟨?_,by omega,?_,?_⟩,by show _ - _<_ - _;omega⟩
  ·rw[List.append_assoc,<-List.replicate_succ'] at o';exact o'
  ·grind [Mod]
  ·grind [Mod]
 ·have hc':ab<l1.n:=by simpa using hc
  have hp:ag H2 H.size xo (gO b.1).toArray:=r1.mod m2 (λhb=>by have:=own0 _ hb;omega)
  refine hp.jq (c:=oq) (x:=(gO b.1).toArray) rfl (by simp[gO,b.2]) ?_
  obtain⟨ad,ha⟩:=ql.addr o2.rd (by decide) (by simp;omega)
  rw[ha]
  refine⟨⟨by omega,by omega⟩,?_⟩
  refine cw.IL (E:=xI) o2 ha (i:=ab) (y:=b) (by simp;omega) (by simp[xI]) (by kernel_rfl) (by simp[xI]) λH3 o3 m3 s3=>?_
  have hkk:k=ab+1 - ps.length:=by omega
  refine hK l1 H3 (by unfold qW;rw[<-hkk];exact o3) ⟨?_,?_⟩
  ·grind [Mod]
  ·grind [Mod]
end Go.Proofs.YtkehfflpbpdokaaGreatDoor
