/-
 The library's sorting of integers and of texts, said of the heap.
-/
import Derived.Test.YtdpdmbceakdlmaaGreatDoorVc
import Derived.Test.YtdpdmbceakdlmaaGreatDoorFxk
import Derived.Test.YtdpdmbceakdlmaaGreatDoorLay
namespace Go.Proofs.YtdpdmbceakdlmaaGreatDoor
def EI:eC Int:=⟨1,fun x=>[.int .i64 x],fun _=>rfl,fun x u hu=>by simp at hu;subst hu;rfl⟩
def EN:eC (List UInt8):=⟨1,fun x=>[.string ⟨x.toArray⟩],fun _=>rfl,fun x u hu=>by simp at hu;subst hu;rfl⟩
theorem u6 (l:List Int):EI.all l=l.map (Value.int .i64):=by
 induction l with
 |nil=>rfl
 |cons x l ih=>
   have e1:EI.all (x::l)=.int .i64 x::EI.all l:=rfl
   rw[e1,ih];rfl
theorem vY (l:List (List UInt8)):EN.all l=l.map fun x=>.string ⟨x.toArray⟩:=by
 induction l with
 |nil=>rfl
 |cons x l ih=>
   have e1:EN.all (x::l)=.string ⟨x.toArray⟩::EN.all l:=rfl
   rw[e1,ih];rfl
theorem ni {α:Type} [Inhabited α] {enc:α→Value} {w:World} {g n:Nat} {cur:Array Value} {e:TypeId} {d:Array α} {os:Array Obj} (hg:w.heap[g]?=some (.cells cur e (0,0))) (hd:d.size≤cur.size):
  (Sort.grow (Sort.putRow enc (Sort.ahead w n) g 0 d) os).heap[g]?=some (.cells (Sort.putCells enc 0 d cur) e (0,0))∧
  Mod (fun b=>b=g) w.heap (Sort.grow (Sort.putRow enc (Sort.ahead w n) g 0 d) os).heap∧(Sort.putCells enc 0 d cur).size=cur.size∧(Sort.putCells enc 0 d cur).toList.take d.size=d.toList.map enc:=by
 have hlt:g<w.heap.size:=az hg
 refine⟨?_,⟨?_,fun b hb hn=>?_⟩,by simp[Sort.putCells],?_⟩
 ·simp only[Sort.grow,Sort.putRow,Sort.mapBlock,Sort.ahead]
  rw[Array.getElem?_append_left (by simpa using hlt),Array.getElem?_modify,if_pos rfl,hg]
  rfl
 ·simp[Sort.grow,Sort.putRow,Sort.mapBlock,Sort.ahead]
 ·simp only[Sort.grow,Sort.putRow,Sort.mapBlock,Sort.ahead]
  rw[Array.getElem?_append_left (by simpa using hb),Array.getElem?_modify,if_neg (Ne.symm hn)]
 ·apply List.ext_getElem?
  intro k
  rw[List.getElem?_take]
  by_cases hk:k<d.size
  ·rw[if_pos hk]
   simp[Sort.putCells]
   rw[Array.getElem?_eq_getElem (by omega)]
   simp[hk]
  ·rw[if_neg hk,List.getElem?_eq_none (by simp;omega)]
theorem uu {s:Sl} {l:List Int} {H:Heap} {K:Unit→Heap→Prop} (h:aG EI fg H s l) (hl:l.length<4611686018427387904)
  (hK:∀H',aG EI fg H' s (l.mergeSort fun x y=>decide (x≤y))→Mod (aj s) H H'→K () H'):GK.sp s H K:=by
 intro w hw
 subst hw
 rcases id h.2 with ⟨e1,e2⟩|⟨g,cap,cur,e1,hb,hg,h4,h5,h6,h7⟩
 ·have hn:=h.n (by decide)
  have hl0:l=[]:=List.eq_nil_of_length_eq_zero (by omega)
  have hc:=AnyM.slices_Sort_int_none sortInt none 0 w
  rw[e1]
  refine hc.mono fun e w' ⟨he,hw'⟩=>?_
  subst hw'
  subst hl0
  exact⟨_,he,⟨(),rfl,hK _ (by simpa using h) (.refl _ _)⟩,.refl _⟩
 ·have hn:=h.n (by decide)
  have hall:=u6 l
  have hs1:EI.size=1:=rfl
  have hH:Sort.Holds (Value.int .i64) w g 0 l.toArray:=by
   intro j hj
   have hj':j<l.length:=by simpa using hj
   have hv:(EI.all l)[j]?=some (.int .i64 l[j]):=by rw[hall];simp[hj']
   rw[←h7,List.getElem?_take,if_pos (by rw[hs1];omega)] at hv
   refine⟨?_,?_⟩
   ·rw[Nat.zero_add]
    have:=cK (o:=j) hg (by simpa using hv)
    simp[hj']
    exact this
   ·rw[Nat.zero_add];exact dv hg
  have hc:=AnyM.slices_Sort_int sortInt g 0 cap l w hH (az hg) hl
  rw[e1,hn]
  refine hc.mono fun e w' ⟨he,n,os,hw'⟩=>?_
  have hm:=List.mergeSort_perm l (fun x y=>decide (x≤y))
  have hsz:(l.mergeSort fun x y=>decide (x≤y)).length=l.length:=hm.length_eq
  obtain⟨q1,q2,q3,q4⟩:=ni (enc:=Value.int .i64) (n:=n) (d:=(l.mergeSort fun x y=>decide (x≤y)).toArray) (os:=os) hg (by rw[h6,hs1];simp[hsz];omega)
  subst hw'
  refine⟨_,he,⟨(),rfl,hK _ ⟨?_,.inr ⟨g,cap,_,e1,hb,q1,h4,h5,by rw[q3];exact h6,?_⟩⟩ (q2.mono fun b _ e=>⟨⟨g,0,none⟩,?_,e.symm⟩)⟩,(.of_le rfl (Nat.le_add_right _ _))⟩
  ·rw[u6,hs1];simp[hsz,hn]
  ·rw[u6,hs1,Nat.mul_one,hn]
   have:(l.mergeSort fun x y=>decide (x≤y)).toArray.size=l.length:=by simp[hsz]
   rw[this] at q4
   rw[q4]
  ·cases s;simp only[Sl.v,Value.slice.injEq] at e1;exact e1.1
end Go.Proofs.YtdpdmbceakdlmaaGreatDoor
