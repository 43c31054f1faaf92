/-
 The library's sorting of integers and of texts, said of the heap.
-/
import Derived.Test.YtkehfflpbpdokaaGreatDoorVc
import Derived.Test.YtkehfflpbpdokaaGreatDoorFxk
import Derived.Test.YtkehfflpbpdokaaGreatDoorLay
open Array renaming getElem?_modify->Tw,getElem?_append_left->T6
open Go.Proofs.AnyM renaming slices_Sort_int_none->Yw,slices_Sort_int->YV
open Go.Sort renaming putCells->SO,putRow->TK,grow->TR,ahead->TZ,mapBlock->Up
open Go.Value renaming int->Ql
open Go.Value.slice renaming injEq->Q3
open List renaming getElem?_take->Rb
open Nat renaming zero_add->Ry
namespace Go.Proofs.YtkehfflpbpdokaaGreatDoor
def EI:kK Int:=⟨1,λx=>[.int .i64 x],λ_=>rfl,λx u hu=>by simp at hu;subst hu;rfl⟩
theorem ya (l:List Int):EI.all l=l.map (Ql .i64):=by
 induction l with
 |nil=>rfl
 |cons x l a=>
   have b:EI.all (x::l)=.int .i64 x::EI.all l:=rfl;rw[b,a];rfl
theorem zK {α:Type} [Inhabited α]{enc:α->Value}{w:World}{g n:Nat}{cur:Array Value}{e:TypeId}{d:Array α}{os:Array Obj}(c:w.heap[g]?=some (.cells cur e (0,0)))(hd:d.size<=cur.size):
  (TR (TK enc (TZ w n) g 0 d) os).heap[g]?=some (.cells (SO enc 0 d cur) e (0,0))/\
  Mod (λb=>b=g) w.heap (TR (TK enc (TZ w n) g 0 d) os).heap/\(SO enc 0 d cur).size=cur.size/\(SO enc 0 d cur).toList.take d.size=d.toList.map enc:=by
 have a:g<w.heap.size:=aI c;refine⟨?_,⟨?_,λb f h=>?_⟩,by simp[SO],?_⟩
 ·simp only[TR,TK,Up,TZ];rw[T6 (by simpa using a),Tw,if_pos rfl,c];rfl
 ·simp[TR,TK,Up,TZ]
 ·simp only[TR,TK,Up,TZ];rw[T6 (by simpa using f),Tw,if_neg (Ne.symm h)]
 ·apply List.ext_getElem?;intro k;rw[Rb];by_cases hk:k<d.size
  ·rw[if_pos hk];simp[SO];rw[Array.getElem?_eq_getElem (by omega)];simp[hk]
  ·rw[if_neg hk,List.getElem?_eq_none (by simp;omega)]
theorem zQ {s:Sl}{l:List Int}{H:aa}{K:Unit->aa->Prop}(h:dm EI bT H s l)(B:l.length<4611686018427387904)
  (u:∀H',dm EI bT H' s (l.mergeSort λx y=>decide (x<=y))->Mod (al s) H H'->K () H'):Pc.sp s H K:=by
 intro w hw;subst hw;rcases id h.2 with ⟨i,e2⟩|⟨g,cap,cur,i,C,p,D,E,v,F⟩
 ·have q:=h.n (by decide);have r:l=[]:=List.eq_nil_of_length_eq_zero (by omega);have t:=Yw sortInt none 0 w;rw[i];refine t.mono λe w' ⟨he,c⟩=>?_;subst c;subst r;exact⟨_,he,⟨(),rfl,u _ (by simpa using h) (.refl _ _)⟩,.refl _⟩
 ·have q:=h.n (by decide);have k:=ya l;have a:EI.size=1:=rfl;have hH:Sort.Holds (Ql .i64) w g 0 l.toArray:=by
   intro j G;have m:j<l.length:=by simpa using G
   have z:(EI.all l)[j]?=some (.int .i64 l[j]):=by rw[k];simp[m]
   rw[<-F,Rb,if_pos (by rw[a];omega)] at z;refine⟨?_,?_⟩
   ·rw[Ry];have:=dh (o:=j) p (by simpa using z);simp[m];exact this
   ·rw[Ry];exact fV p
  have t:=YV sortInt g 0 cap l w hH (aI p) B;rw[i,q];refine t.mono λe w' ⟨he,n,os,c⟩=>?_;have hm:=List.mergeSort_perm l (λx y=>decide (x<=y));have f:(l.mergeSort λx y=>decide (x<=y)).length=l.length:=hm.length_eq;obtain⟨I,J,L,A⟩:=zK (enc:=Ql .i64) (n:=n) (d:=(l.mergeSort λx y=>decide (x<=y)).toArray) (os:=os) p (by rw[v,a];simp[f];omega);subst c;refine⟨_,he,⟨(),rfl,u _ ⟨?_,.inr ⟨g,cap,_,i,C,I,D,E,by rw[L];exact v,?_⟩⟩ (J.mono λb _ e=>⟨⟨g,0,none⟩,?_,e.symm⟩)⟩,(.of_le rfl (Nat.le_add_right _ _))⟩
  ·rw[ya,a];simp[f,q]
  ·rw[ya,a,Nat.mul_one,q];have:(l.mergeSort λx y=>decide (x<=y)).toArray.size=l.length:=by simp[f]
   rw[this] at A;rw[A]
  ·cases s;simp only[Sl.v,Q3] at i;exact i.1
end Go.Proofs.YtkehfflpbpdokaaGreatDoor
