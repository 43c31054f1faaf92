/-
 The library's sorting of integers and of texts, said of the heap.
-/
import Derived.Test.YtmkbhnholcaghaaGreatDoorVc
import Derived.Test.YtmkbhnholcaghaaGreatDoorFxk
import Derived.Test.YtmkbhnholcaghaaGreatDoorLay
open Array renaming getElem?_append_left->QV,getElem?_modify->QZ
open Go.Proofs.AnyM renaming slices_Sort_int_none->VM,slices_Sort_int->Wc
open Go.Sort renaming putCells->QA,putRow->Ru,grow->RM,ahead->R8,mapBlock->SF
open Go.Value renaming int->On
open Go.Value.slice renaming injEq->Ov
open List renaming getElem?_take->O2
open Nat renaming zero_add->Pt
namespace Go.Proofs.YtmkbhnholcaghaaGreatDoor
def EI:eJ Int:=⟨1,λx=>[.int .i64 x],λ_=>rfl,λx u hu=>by simp at hu;subst hu;rfl⟩
def EN:eJ (List UInt8):=⟨1,λx=>[.string ⟨x.toArray⟩],λ_=>rfl,λx u hu=>by simp at hu;subst hu;rfl⟩
theorem AM (l:List Int):EI.all l=l.map (On .i64):=by
 induction l with
 |nil=>rfl
 |cons x l a=>
   have b:EI.all (x::l)=.int .i64 x::EI.all l:=rfl;rw[b,a];rfl
theorem zf (l:List (List UInt8)):EN.all l=l.map λx=>.string ⟨x.toArray⟩:=by
 induction l with
 |nil=>rfl
 |cons x l a=>
   have b:EN.all (x::l)=.string ⟨x.toArray⟩::EN.all l:=rfl;rw[b,a];rfl
theorem qH {α:Type} [Inhabited α]{enc:α->Value}{w:World}{g n:Nat}{cur:Array Value}{e:TypeId}{d:Array α}{os:Array Obj}(c:w.heap[g]?=some (.cells cur e (0,0)))(hd:d.size<=cur.size):
  (RM (Ru enc (R8 w n) g 0 d) os).heap[g]?=some (.cells (QA enc 0 d cur) e (0,0))/\
  Mod (λb=>b=g) w.heap (RM (Ru enc (R8 w n) g 0 d) os).heap/\(QA enc 0 d cur).size=cur.size/\(QA enc 0 d cur).toList.take d.size=d.toList.map enc:=by
 have a:g<w.heap.size:=aA c;refine⟨?_,⟨?_,λb f h=>?_⟩,by simp[QA],?_⟩
 ·simp only[RM,Ru,SF,R8];rw[QV (by simpa using a),QZ,if_pos rfl,c];rfl
 ·simp[RM,Ru,SF,R8]
 ·simp only[RM,Ru,SF,R8];rw[QV (by simpa using f),QZ,if_neg (Ne.symm h)]
 ·apply List.ext_getElem?;intro k;rw[O2];by_cases hk:k<d.size
  ·rw[if_pos hk];simp[QA];rw[Array.getElem?_eq_getElem (by omega)];simp[hk]
  ·rw[if_neg hk,List.getElem?_eq_none (by simp;omega)]
theorem yl {s:Sl}{l:List Int}{H:aa}{K:Unit->aa->Prop}(h:az EI ib H s l)(hl:l.length<4611686018427387904)
  (u:∀H',az EI ib H' s (l.mergeSort λx y=>decide (x<=y))->Mod (ag s) H H'->K () H'):ML.sp s H K:=by
 intro w hw;subst hw;rcases id h.2 with ⟨i,e2⟩|⟨g,cap,cur,i,B,p,C,D,v,E⟩
 ·have q:=h.n (by decide);have r:l=[]:=List.eq_nil_of_length_eq_zero (by omega);have t:=VM sortInt none 0 w;rw[i];refine t.mono λe w' ⟨he,c⟩=>?_;subst c;subst r;exact⟨_,he,⟨(),rfl,u _ (by simpa using h) (.refl _ _)⟩,.refl _⟩
 ·have q:=h.n (by decide);have k:=AM l;have a:EI.size=1:=rfl;have hH:Sort.Holds (On .i64) w g 0 l.toArray:=by
   intro j F;have m:j<l.length:=by simpa using F
   have z:(EI.all l)[j]?=some (.int .i64 l[j]):=by rw[k];simp[m]
   rw[<-E,O2,if_pos (by rw[a];omega)] at z;refine⟨?_,?_⟩
   ·rw[Pt];have:=cq (o:=j) p (by simpa using z);simp[m];exact this
   ·rw[Pt];exact dv p
  have t:=Wc sortInt g 0 cap l w hH (aA p) hl;rw[i,q];refine t.mono λe w' ⟨he,n,os,c⟩=>?_;have hm:=List.mergeSort_perm l (λx y=>decide (x<=y));have f:(l.mergeSort λx y=>decide (x<=y)).length=l.length:=hm.length_eq;obtain⟨G,I,J,A⟩:=qH (enc:=On .i64) (n:=n) (d:=(l.mergeSort λx y=>decide (x<=y)).toArray) (os:=os) p (by rw[v,a];simp[f];omega);subst c;refine⟨_,he,⟨(),rfl,u _ ⟨?_,.inr ⟨g,cap,_,i,B,G,C,D,by rw[J];exact v,?_⟩⟩ (I.mono λb _ e=>⟨⟨g,0,none⟩,?_,e.symm⟩)⟩,(.of_le rfl (Nat.le_add_right _ _))⟩
  ·rw[AM,a];simp[f,q]
  ·rw[AM,a,Nat.mul_one,q];have:(l.mergeSort λx y=>decide (x<=y)).toArray.size=l.length:=by simp[f]
   rw[this] at A;rw[A]
  ·cases s;simp only[Sl.v,Ov] at i;exact i.1
end Go.Proofs.YtmkbhnholcaghaaGreatDoor
