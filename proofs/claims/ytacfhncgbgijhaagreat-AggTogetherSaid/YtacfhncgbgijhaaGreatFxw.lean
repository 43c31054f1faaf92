/-
 Ground: slices.Insert, at any type of elements of one cell, in memory of one's own.
-/
import Derived.Test.YtacfhncgbgijhaaGreatFxs
import Derived.Lib.Overlaps
namespace Go.Proofs.YtacfhncgbgijhaaGreat
theorem tT {cur:Array Value} {o:Nat} {cs:List Value} {n:Nat} (h:o+cs.length≤n) (hn:n≤cur.size):
  ((cur.toList.take o++cs++cur.toList.drop (o+cs.length)).toArray).toList.take n=(cur.toList.take n).take o++cs++(cur.toList.take n).drop (o+cs.length):=by
 have h1:(cur.toList.take o).length=o:=by rw[List.length_take];simp;omega
 have h2:(cur.toList.take o++cs).length=o+cs.length:=by rw[List.length_append,h1]
 have e:(cur.toList.take n).take o=cur.toList.take o:=by rw[List.take_take,Nat.min_eq_left (by omega)]
 rw[List.take_append,h2,List.take_of_length_le (by omega),e,List.drop_take]
theorem au.Jz {P:Program} {dT sT ty e:TypeId} {H:aa} {base o dl dc:Nat} {s x:Sl} {xs cs:List Value} {a:Option Addr} {K:Int→aa→Prop} (hu:P.underlying dT=some (.slice e)) (hs:(P.info? e).map (·.size)=some 1)
  (h:au H base e 1 s xs) (ha:cs≠[]→a=s.a.map (·.add o)) (hx:Reads H x.a cs) (hn:cs.length=Nat.min x.n dl) (hfit:o+cs.length≤s.n) (h1:∀v∈cs,v.oneCell'=true)
  (hK:∀H',au H' base e 1 s (xs.take o++cs++xs.drop (o+cs.length))→Mod (ai s) H H'→H'.size=H.size→K (cs.length:Int) H'):
  bS (ab .i64) P (Builtin.copy_ #[dT,sT] ty #[.slice a dl dc,x.v]) H K:=by
 intro w hw
 subst hw
 obtain⟨xa,xn,xc⟩:=x
 simp only[Sl.v] at*
 by_cases hz:cs=[]
 ·subst hz
  have hr:=run_copy_none (P:=P) w dT sT ty e a xa dl dc xn xc hu hs hn.symm
  refine⟨_,w,hr,⟨0,rfl,?_⟩,.refl w⟩
  refine hK w.heap ?_ (.refl _ _) rfl
  simpa using h
 ·have hpos:0<cs.length:=List.length_pos_iff.2 hz
  obtain⟨ad,rfl,_⟩:=hx.at hpos
  have hsrc:∀j v,cs[j]?=some v→w.cell? (ad.add j)=some v:=fun j v hv=>by
   obtain⟨ad',e,hc⟩:=hx j v hv
   cases e;exact hc
  rcases id h.2 with ⟨e1,e2⟩|⟨g,cap,cur,e1,hb,hg,h4,h5,h6,h7⟩
  ·omega
  ·obtain⟨sa,sn,sc⟩:=s
   simp only[Sl.v,Value.slice.injEq] at e1
   obtain⟨rfl,_,rfl⟩:=e1
   simp only at h4 h6 h7 hfit ha
   rw[Nat.mul_one] at h6 h7
   have hcur:o+cs.length≤cur.size:=by omega
   have hr:=run_copy_row (P:=P) w dT sT ty e g o dl dc ad xn xc cur e cs hu hs hg hn hsrc hcur h1
   have ea:a=some ⟨g,o,none⟩:=by rw[ha hz];simp[add_lit]
   rw[ea]
   have hl:(cur.toList.take o++cs++cur.toList.drop (o+cs.length)).toArray.size=cur.size:=by simp;omega
   refine⟨_,_,hr,⟨(cs.length:Int),rfl,hK _ ⟨?_,.inr ⟨g,sc,_,rfl,hb,setRow_heap w g cur _ e _ hg,h4,h5,by rw[hl,Nat.mul_one,h6],?_⟩⟩ ⟨by simp[World.setRow],fun k _ hk=>setRow_other w g k _ (fun e3=>hk ⟨_,rfl,e3.symm⟩)⟩ (by simp[World.setRow])⟩,(.of_le rfl (Nat.le_refl _))⟩
   ·have:=h.1
    simp only[Nat.mul_one] at this ⊢
    simp;omega
   ·simp only
    rw[Nat.mul_one,tT hfit (by omega),h7]
end Go.Proofs.YtacfhncgbgijhaaGreat
