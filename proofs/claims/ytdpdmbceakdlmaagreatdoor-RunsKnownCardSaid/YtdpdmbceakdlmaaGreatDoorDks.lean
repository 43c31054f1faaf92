/-
 The library's sorting of integers and of texts, said of the heap.
-/
import Derived.Test.YtdpdmbceakdlmaaGreatDoorVc
import Derived.Test.YtdpdmbceakdlmaaGreatDoorFxk
import Derived.Test.YtdpdmbceakdlmaaGreatDoorLay
open Array renaming getElem?_append_left->Nj,getElem?_modify->No
open Go.Proofs.AnyM renaming slices_Sort_int_none->Ry,slices_Sort_int->RY
open Go.Sort renaming putCells->MN,putRow->NB,grow->NJ,ahead->NR,mapBlock->N8
open Go.Value renaming int->Lb
open Go.Value.slice renaming injEq->Ld
open List renaming getElem?_take->LB
open Nat renaming zero_add->LV
namespace Go.Proofs.YtdpdmbceakdlmaaGreatDoor
def EI:fN Int:=⟨1,λx=>[.int .i64 x],λ_=>rfl,λx u hu=>by simp at hu;subst hu;rfl⟩
def EN:fN (List UInt8):=⟨1,λx=>[.string ⟨x.toArray⟩],λ_=>rfl,λx u hu=>by simp at hu;subst hu;rfl⟩
theorem xv (l:List Int):EI.all l=l.map (Lb .i64):=by
 induction l with
 |nil=>rfl
 |cons x l ih=>
   have e1:EI.all (x::l)=.int .i64 x::EI.all l:=rfl
   rw[e1,ih];rfl
theorem xD (l:List (List UInt8)):EN.all l=l.map λx=>.string ⟨x.toArray⟩:=by
 induction l with
 |nil=>rfl
 |cons x l ih=>
   have e1:EN.all (x::l)=.string ⟨x.toArray⟩::EN.all l:=rfl
   rw[e1,ih];rfl
theorem po {α:Type} [Inhabited α]{enc:α->Value}{w:World}{g n:Nat}{cur:Array Value}{e:TypeId}{d:Array α}{os:Array Obj}(hg:w.heap[g]?=some (.cells cur e (0,0)))(hd:d.size<=cur.size):
  (NJ (NB enc (NR w n) g 0 d) os).heap[g]?=some (.cells (MN enc 0 d cur) e (0,0))/\
  Mod (λb=>b=g) w.heap (NJ (NB enc (NR w n) g 0 d) os).heap/\(MN enc 0 d cur).size=cur.size/\(MN enc 0 d cur).toList.take d.size=d.toList.map enc:=by
 have hlt:g<w.heap.size:=aG hg
 refine⟨?_,⟨?_,λb hb hn=>?_⟩,by simp[MN],?_⟩
 ·simp only[NJ,NB,N8,NR]
  rw[Nj (by simpa using hlt),No,if_pos rfl,hg]
  rfl
 ·simp[NJ,NB,N8,NR]
 ·simp only[NJ,NB,N8,NR]
  rw[Nj (by simpa using hb),No,if_neg (Ne.symm hn)]
 ·apply List.ext_getElem?
  intro k
  rw[LB]
  by_cases hk:k<d.size
  ·rw[if_pos hk]
   simp[MN]
   rw[Array.getElem?_eq_getElem (by omega)]
   simp[hk]
  ·rw[if_neg hk,List.getElem?_eq_none (by simp;omega)]
theorem uV {s:Sl}{l:List Int}{H:Heap}{K:Unit->Heap->Prop}(h:aK EI j7 H s l)(hl:l.length<4611686018427387904)
  (hK:∀H',aK EI j7 H' s (l.mergeSort λx y=>decide (x<=y))->Mod (al s) H H'->K () H'):JB.sp s H K:=by
 intro w hw
 subst hw
 rcases id h.2 with ⟨e1,e2⟩|⟨g,cap,cur,e1,hb,hg,h4,h5,h6,h7⟩
 ·have hn:=h.n (by decide)
  have hl0:l=[]:=List.eq_nil_of_length_eq_zero (by omega)
  have hc:=Ry sortInt none 0 w
  rw[e1]
  refine hc.mono λe w' ⟨he,hw'⟩=>?_
  subst hw'
  subst hl0
  exact⟨_,he,⟨(),rfl,hK _ (by simpa using h) (.refl _ _)⟩,.refl _⟩
 ·have hn:=h.n (by decide)
  have hall:=xv l
  have hs1:EI.size=1:=rfl
  have hH:Sort.Holds (Lb .i64) w g 0 l.toArray:=by
   intro j hj
   have hj':j<l.length:=by simpa using hj
   have hv:(EI.all l)[j]?=some (.int .i64 l[j]):=by rw[hall];simp[hj']
   rw[<-h7,LB,if_pos (by rw[hs1];omega)] at hv
   refine⟨?_,?_⟩
   ·rw[LV]
    have:=cW (o:=j) hg (by simpa using hv)
    simp[hj']
    exact this
   ·rw[LV];exact dR hg
  have hc:=RY sortInt g 0 cap l w hH (aG hg) hl
  rw[e1,hn]
  refine hc.mono λe w' ⟨he,n,os,hw'⟩=>?_
  have hm:=List.mergeSort_perm l (λx y=>decide (x<=y))
  have hsz:(l.mergeSort λx y=>decide (x<=y)).length=l.length:=hm.length_eq
  obtain⟨q1,q2,q3,q4⟩:=po (enc:=Lb .i64) (n:=n) (d:=(l.mergeSort λx y=>decide (x<=y)).toArray) (os:=os) hg (by rw[h6,hs1];simp[hsz];omega)
  subst hw'
  refine⟨_,he,⟨(),rfl,hK _ ⟨?_,.inr ⟨g,cap,_,e1,hb,q1,h4,h5,by rw[q3];exact h6,?_⟩⟩ (q2.mono λb _ e=>⟨⟨g,0,none⟩,?_,e.symm⟩)⟩,(.of_le rfl (Nat.le_add_right _ _))⟩
  ·rw[xv,hs1];simp[hsz,hn]
  ·rw[xv,hs1,Nat.mul_one,hn]
   have:(l.mergeSort λx y=>decide (x<=y)).toArray.size=l.length:=by simp[hsz]
   rw[this] at q4
   rw[q4]
  ·cases s;simp only[Sl.v,Ld] at e1;exact e1.1
end Go.Proofs.YtdpdmbceakdlmaaGreatDoor
