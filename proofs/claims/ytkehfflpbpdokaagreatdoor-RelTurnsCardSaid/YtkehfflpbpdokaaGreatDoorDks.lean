/-
 The library's sorting of integers and of texts, said of the heap.
-/
import Derived.Test.YtkehfflpbpdokaaGreatDoorVc
import Derived.Test.YtkehfflpbpdokaaGreatDoorFxk
import Derived.Test.YtkehfflpbpdokaaGreatDoorLay
open Array renaming getElem?_modify->M9,getElem?_append_left->NB
open Go.Proofs.AnyM renaming slices_Sort_int_none->RY,slices_Sort_int->Sv
open Go.Sort renaming putCells->MB,putRow->Nq,grow->Nu,ahead->NA,mapBlock->NP
open Go.Value renaming int->Km
open Go.Value.slice renaming injEq->K5
open List renaming getElem?_take->Lh
open Nat renaming zero_add->LB
namespace Go.Proofs.YtkehfflpbpdokaaGreatDoor
def EI:ja Int:=⟨1,λx=>[.int .i64 x],λ_=>rfl,λx u hu=>by simp at hu;subst hu;rfl⟩
theorem uy (l:List Int):EI.all l=l.map (Km .i64):=by
 induction l with
 |nil=>rfl
 |cons x l ih=>
   have e1:EI.all (x::l)=.int .i64 x::EI.all l:=rfl
   rw[e1,ih];rfl
theorem vI {α:Type} [Inhabited α]{enc:α->Value}{w:World}{g n:Nat}{cur:Array Value}{e:TypeId}{d:Array α}{os:Array Obj}(hg:w.heap[g]?=some (.cells cur e (0,0)))(hd:d.size<=cur.size):
  (Nu (Nq enc (NA w n) g 0 d) os).heap[g]?=some (.cells (MB enc 0 d cur) e (0,0))/\
  Mod (λb=>b=g) w.heap (Nu (Nq enc (NA w n) g 0 d) os).heap/\(MB enc 0 d cur).size=cur.size/\(MB enc 0 d cur).toList.take d.size=d.toList.map enc:=by
 have hlt:g<w.heap.size:=aG hg
 refine⟨?_,⟨?_,λb hb hn=>?_⟩,by simp[MB],?_⟩
 ·simp only[Nu,Nq,NP,NA]
  rw[NB (by simpa using hlt),M9,if_pos rfl,hg]
  rfl
 ·simp[Nu,Nq,NP,NA]
 ·simp only[Nu,Nq,NP,NA]
  rw[NB (by simpa using hb),M9,if_neg (Ne.symm hn)]
 ·apply List.ext_getElem?
  intro k
  rw[Lh]
  by_cases hk:k<d.size
  ·rw[if_pos hk]
   simp[MB]
   rw[Array.getElem?_eq_getElem (by omega)]
   simp[hk]
  ·rw[if_neg hk,List.getElem?_eq_none (by simp;omega)]
theorem v8 {s:Sl}{l:List Int}{H:aa}{K:Unit->aa->Prop}(h:cw EI dA H s l)(hl:l.length<4611686018427387904)
  (hK:∀H',cw EI dA H' s (l.mergeSort λx y=>decide (x<=y))->Mod (ai s) H H'->K () H'):Jo.sp s H K:=by
 intro w hw
 subst hw
 rcases id h.2 with ⟨e1,e2⟩|⟨g,cap,cur,e1,hb,hg,h4,h5,h6,h7⟩
 ·have hn:=h.n (by decide)
  have hl0:l=[]:=List.eq_nil_of_length_eq_zero (by omega)
  have hc:=RY sortInt none 0 w
  rw[e1]
  refine hc.mono λe w' ⟨he,hw'⟩=>?_
  subst hw'
  subst hl0
  exact⟨_,he,⟨(),rfl,hK _ (by simpa using h) (.refl _ _)⟩,.refl _⟩
 ·have hn:=h.n (by decide)
  have hall:=uy l
  have hs1:EI.size=1:=rfl
  have hH:Sort.Holds (Km .i64) w g 0 l.toArray:=by
   intro j hj
   have hj':j<l.length:=by simpa using hj
   have hv:(EI.all l)[j]?=some (.int .i64 l[j]):=by rw[hall];simp[hj']
   rw[<-h7,Lh,if_pos (by rw[hs1];omega)] at hv
   refine⟨?_,?_⟩
   ·rw[LB]
    have:=cv (o:=j) hg (by simpa using hv)
    simp[hj']
    exact this
   ·rw[LB];exact dV hg
  have hc:=Sv sortInt g 0 cap l w hH (aG hg) hl
  rw[e1,hn]
  refine hc.mono λe w' ⟨he,n,os,hw'⟩=>?_
  have hm:=List.mergeSort_perm l (λx y=>decide (x<=y))
  have hsz:(l.mergeSort λx y=>decide (x<=y)).length=l.length:=hm.length_eq
  obtain⟨q1,q2,q3,q4⟩:=vI (enc:=Km .i64) (n:=n) (d:=(l.mergeSort λx y=>decide (x<=y)).toArray) (os:=os) hg (by rw[h6,hs1];simp[hsz];omega)
  subst hw'
  refine⟨_,he,⟨(),rfl,hK _ ⟨?_,.inr ⟨g,cap,_,e1,hb,q1,h4,h5,by rw[q3];exact h6,?_⟩⟩ (q2.mono λb _ e=>⟨⟨g,0,none⟩,?_,e.symm⟩)⟩,(.of_le rfl (Nat.le_add_right _ _))⟩
  ·rw[uy,hs1];simp[hsz,hn]
  ·rw[uy,hs1,Nat.mul_one,hn]
   have:(l.mergeSort λx y=>decide (x<=y)).toArray.size=l.length:=by simp[hsz]
   rw[this] at q4
   rw[q4]
  ·cases s;simp only[Sl.v,K5] at e1;exact e1.1
end Go.Proofs.YtkehfflpbpdokaaGreatDoor
