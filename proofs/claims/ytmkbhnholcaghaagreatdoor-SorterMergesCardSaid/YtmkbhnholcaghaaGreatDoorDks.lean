/-
 The library's sorting of integers and of texts, said of the heap.
-/
import Derived.Test.YtmkbhnholcaghaaGreatDoorVc
import Derived.Test.YtmkbhnholcaghaaGreatDoorFxk
import Derived.Test.YtmkbhnholcaghaaGreatDoorLay
open Array renaming getElem?_append_left->Ra,getElem?_modify->Rg
open Go.Proofs.AnyM renaming slices_Sort_int_none->V0,slices_Sort_int->Wq
open Go.Sort renaming putCells->QO,putRow->RH,grow->R3,ahead->Sm,mapBlock->SX
open Go.Value renaming int->OF
open Go.Value.slice renaming injEq->ON
open List renaming getElem?_take->Pd
open Nat renaming zero_add->PI
namespace Go.Proofs.YtmkbhnholcaghaaGreatDoor
def EI:eK Int:=⟨1,λx=>[.int .i64 x],λ_=>rfl,λx u hu=>by simp at hu;subst hu;rfl⟩
def EN:eK (List UInt8):=⟨1,λx=>[.string ⟨x.toArray⟩],λ_=>rfl,λx u hu=>by simp at hu;subst hu;rfl⟩
theorem AZ (l:List Int):EI.all l=l.map (OF .i64):=by
 induction l with
 |nil=>rfl
 |cons x l a=>
   have b:EI.all (x::l)=.int .i64 x::EI.all l:=rfl;rw[b,a];rfl
theorem zq (l:List (List UInt8)):EN.all l=l.map λx=>.string ⟨x.toArray⟩:=by
 induction l with
 |nil=>rfl
 |cons x l a=>
   have b:EN.all (x::l)=.string ⟨x.toArray⟩::EN.all l:=rfl;rw[b,a];rfl
theorem qQ {α:Type} [Inhabited α]{enc:α->Value}{w:World}{g n:Nat}{cur:Array Value}{e:TypeId}{d:Array α}{os:Array Obj}(c:w.heap[g]?=some (.cells cur e (0,0)))(hd:d.size<=cur.size):
  (R3 (RH enc (Sm w n) g 0 d) os).heap[g]?=some (.cells (QO enc 0 d cur) e (0,0))/\
  Mod (λb=>b=g) w.heap (R3 (RH enc (Sm w n) g 0 d) os).heap/\(QO enc 0 d cur).size=cur.size/\(QO enc 0 d cur).toList.take d.size=d.toList.map enc:=by
 have a:g<w.heap.size:=aA c;refine⟨?_,⟨?_,λb f h=>?_⟩,by simp[QO],?_⟩
 ·simp only[R3,RH,SX,Sm];rw[Ra (by simpa using a),Rg,if_pos rfl,c];rfl
 ·simp[R3,RH,SX,Sm]
 ·simp only[R3,RH,SX,Sm];rw[Ra (by simpa using f),Rg,if_neg (Ne.symm h)]
 ·apply List.ext_getElem?;intro k;rw[Pd];by_cases hk:k<d.size
  ·rw[if_pos hk];simp[QO];rw[Array.getElem?_eq_getElem (by omega)];simp[hk]
  ·rw[if_neg hk,List.getElem?_eq_none (by simp;omega)]
theorem yA {s:Sl}{l:List Int}{H:aa}{K:Unit->aa->Prop}(h:az EI iH H s l)(hl:l.length<4611686018427387904)
  (u:∀H',az EI iH H' s (l.mergeSort λx y=>decide (x<=y))->Mod (ah s) H H'->K () H'):MU.sp s H K:=by
 intro w hw;subst hw;rcases id h.2 with ⟨i,e2⟩|⟨g,cap,cur,i,B,p,C,D,v,E⟩
 ·have q:=h.n (by decide);have r:l=[]:=List.eq_nil_of_length_eq_zero (by omega);have t:=V0 sortInt none 0 w;rw[i];refine t.mono λe w' ⟨he,c⟩=>?_;subst c;subst r;exact⟨_,he,⟨(),rfl,u _ (by simpa using h) (.refl _ _)⟩,.refl _⟩
 ·have q:=h.n (by decide);have k:=AZ l;have a:EI.size=1:=rfl;have hH:Sort.Holds (OF .i64) w g 0 l.toArray:=by
   intro j F;have m:j<l.length:=by simpa using F
   have z:(EI.all l)[j]?=some (.int .i64 l[j]):=by rw[k];simp[m]
   rw[<-E,Pd,if_pos (by rw[a];omega)] at z;refine⟨?_,?_⟩
   ·rw[PI];have:=cC (o:=j) p (by simpa using z);simp[m];exact this
   ·rw[PI];exact dx p
  have t:=Wq sortInt g 0 cap l w hH (aA p) hl;rw[i,q];refine t.mono λe w' ⟨he,n,os,c⟩=>?_;have hm:=List.mergeSort_perm l (λx y=>decide (x<=y));have f:(l.mergeSort λx y=>decide (x<=y)).length=l.length:=hm.length_eq;obtain⟨G,I,J,A⟩:=qQ (enc:=OF .i64) (n:=n) (d:=(l.mergeSort λx y=>decide (x<=y)).toArray) (os:=os) p (by rw[v,a];simp[f];omega);subst c;refine⟨_,he,⟨(),rfl,u _ ⟨?_,.inr ⟨g,cap,_,i,B,G,C,D,by rw[J];exact v,?_⟩⟩ (I.mono λb _ e=>⟨⟨g,0,none⟩,?_,e.symm⟩)⟩,(.of_le rfl (Nat.le_add_right _ _))⟩
  ·rw[AZ,a];simp[f,q]
  ·rw[AZ,a,Nat.mul_one,q];have:(l.mergeSort λx y=>decide (x<=y)).toArray.size=l.length:=by simp[f]
   rw[this] at A;rw[A]
  ·cases s;simp only[Sl.v,ON] at i;exact i.1
end Go.Proofs.YtmkbhnholcaghaaGreatDoor
