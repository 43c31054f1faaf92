/-
 Ground, seventeenth text: slices.SortFunc, said of the heap: the closure by its contract on heaps.
-/
import Derived.Test.YtmkbhnholcaghaaGreatDoorFxk
import Derived.Shelf.SlSortCmp.NoneTotal
open Array renaming getElem?_append_left->Ra,getElem?_modify->Rg
open Go.Proofs.Any renaming slices_SortFunc_total->VZ
open Go.Proofs.AnyF renaming slices_SortFunc_none->Se
open Go.Proofs.SlLaysF renaming n6->TU
open Go.Sort renaming putCells->QO,putRow->RH,grow->R3,ahead->Sm,mapBlock->SX
open Go.Value.slice renaming injEq->ON
open List renaming getElem?_take->Pd
open Nat renaming zero_add->PI
namespace Go.Proofs.YtmkbhnholcaghaaGreatDoor
open Go.Shelf Go.Sort
theorem iT {α:Type} [Inhabited α]{enc:α->Value}{w:World}{g m:Nat}{d:Array α}{os:Array Obj}:
  w.heap.size<=(sortWorld enc w g 0 m d os).heap.size/\∀b,b<w.heap.size->b≠g->(sortWorld enc w g 0 m d os).heap[b]?=w.heap[b]?:=by
 refine⟨by simp[sortWorld,R3,RH,SX,Sm],λb a c=>?_⟩;simp only[sortWorld,R3,RH,SX,Sm];rw[Ra (by simpa using a),Rg,if_neg (Ne.symm c)]
theorem nD {α:Type} [Inhabited α]{enc:α->Value}{w:World}{g n:Nat}{cur:Array Value}{e:TypeId}{d:Array α}{os:Array Obj}(b:w.heap[g]?=some (.cells cur e (0,0)))(hd:d.size<=cur.size):
  (sortWorld enc w g 0 n d os).heap[g]?=some (.cells (QO enc 0 d cur) e (0,0))/\(QO enc 0 d cur).size=cur.size/\(QO enc 0 d cur).toList.take d.size=d.toList.map enc:=by
 have a:g<w.heap.size:=aA b;refine⟨?_,by simp[QO],?_⟩
 ·simp only[sortWorld,R3,RH,SX,Sm];rw[Ra (by simpa using a),Rg,if_pos rfl,b];rfl
 ·apply List.ext_getElem?;intro k;rw[Pd];by_cases hk:k<d.size
  ·rw[if_pos hk];simp[QO];rw[Array.getElem?_eq_getElem (by omega)];simp[hk]
  ·rw[if_neg hk,List.getElem?_eq_none (by simp;omega)]
theorem yJ {H H':aa}(e:Mod (λ_=>False) H H'):∃os:Array Obj,H'=H++os:=by
 refine⟨H'.extract H.size H'.size,?_⟩;apply Array.ext_getElem?;intro i;rw[Array.getElem?_append];split
 ·rename_i h;exact e.same i h id
 ·rename_i h;rw[Array.getElem?_extract];have hs:=e.size;by_cases a:i<H'.size
  ·rw[if_pos (by omega)];congr 1;omega
  ·rw[if_neg (by omega),Array.getElem?_eq_none (by omega)]
theorem xe {P:Program}{g:Nat}{k:Array Value}{α:Type} [Inhabited α]{enc:α->Value}{cf:α->α->Int}{a size:Nat}{w:World}
  (h:∀H:aa,w.heap.size<=H.size->(∀b,b<w.heap.size->b≠a->H[b]?=w.heap[b]?)->∀x y,Spec P g (#[enc x,enc y]++k) H λv H'=>v=.int .i64 (cf x y)/\Mod (λ_=>False) H H'):
  CmpLays1 P g k enc cf a 0 size w:=by
 intro m os f _ x y;obtain⟨h1,l⟩:=iT (enc:=enc) (w:=w) (g:=a) (m:=m) (d:=f) (os:=os);refine(h _ h1 l x y (sortWorld enc w a 0 m f os) rfl).mono λe w' ⟨v,he,⟨n,hm⟩,c⟩=>?_;subst n;refine⟨he,w'.drawn - (sortWorld enc w a 0 m f os).drawn,?_⟩;obtain⟨i,j⟩:=yJ hm;refine⟨i,?_⟩;have hd:=c.drawn;have o:=c.rest;generalize sortWorld enc w a 0 m f os=W at*;rw[o,j];unfold R3 World.drewN;have:W.drawn+(w'.drawn - W.drawn)=w'.drawn:=by omega
 rw[this]
theorem uh {P:Program}{ρ:Ren}(L:TU P ρ){α:Type} [Inhabited α]{E:eK α}{e:α->Value}(J:∀x,E.enc x=[e x])(hs:E.size=1){cf:α->α->Int}(hO:SWO (ltOf cf))
  (T:∀x y,(ltOf cf) x y=false->(ltOf cf) y x=false->x=y) {g:Nat} {A:Array Value} (U:∀args w,(callFunc g args).run P w=.ok (.enter g args) w) {M:TypeId} {H:aa} {s:Sl} {l:List α} (h:az E M H s l) (hl:l.length<4611686018427387904)
  (t:∀H',Mod (ah s) H H'->∀x y,Spec P g (#[e x,e y]++A) H' λv D=>v=.int .i64 (cf x y)/\Mod (λ_=>False) H' D)
  {K:Unit->aa->Prop} (N:∀H',az E M H' s (l.mergeSort λx y=>!(ltOf cf) y x)->Mod (ah s) H H'->K () H'):ai (aR []) P (ρ.f 6) #[s.v,.func (.func g) #[] A] H K:=by
 intro w hw;subst hw;have a:∀l:List α,E.all l=l.map e:=by
  intro l
  induction l with
  |nil=>rfl
  |cons x l V=>
    have:E.all (x::l)=E.enc x++E.all l:=rfl;rw[this,J,V];rfl
 rcases id h.2 with ⟨r,e2⟩|⟨b,cap,cur,r,W,B,X,Y,O,Z⟩
 ·have i:=h.n (by omega);have F:l=[]:=List.eq_nil_of_length_eq_zero (by omega);have C:=Se (P:=P) (ρ:=ρ) {L with} none 0 (.func (.func g) #[] A) w;rw[r];refine C.mono λe w' ⟨he,f⟩=>?_;subst f;subst F;exact⟨_,he,⟨(),rfl,N _ (by simpa using h) (.refl _ _)⟩,.refl _⟩
 ·have i:=h.n (by omega);have u:∀k,ah s k↔k=b:=by
   intro k;have Q:s.a=some ⟨b,0,none⟩:=by cases s;simp only[Sl.v,ON] at r;exact r.1
   constructor
   ·rintro⟨ad,h1,h2⟩;rw[Q] at h1;cases h1;exact h2.symm
   ·rintro rfl;exact⟨_,Q,rfl⟩
  have hH:Sort.Holds e w b 0 l.toArray:=by
   intro j hj;have z:j<l.length:=by simpa using hj
   have R:(E.all l)[j]?=some (e l[j]):=by rw[a];simp[z]
   rw[<-Z,Pd,if_pos (by rw[hs];omega)] at R;refine⟨?_,?_⟩
   ·rw[PI];have:=cC (o:=j) B (by simpa using R);simp[z];exact this
   ·rw[PI];exact dx B
  have G:OneCell e:=λx=>by
   have:=E.one x (e x) (by rw[J];simp);exact this
  have C:=VZ L e G cf hO g A b 0 cap l.toArray w U (xe λH' c p x y=>t H' ⟨c,λk hk i=>p k hk (λq=>i ((u k).2 q))⟩ x y) hH (aA B) (by simpa using hl) T;rw[r,i];have hlen:(l.toArray).size=l.length:=by simp
  rw[hlen] at C;refine C.mono λev w' ⟨he,n,os,f⟩=>?_;have hm:=List.mergeSort_perm l (λx y=>!(ltOf cf) y x);have c:(l.mergeSort λx y=>!(ltOf cf) y x).length=l.length:=hm.length_eq;have I:l.toArray.toList=l:=by simp
  rw[I] at f;obtain⟨q1,q3,S⟩:=nD (enc:=e) (n:=n) (d:=(l.mergeSort λx y=>!(ltOf cf) y x).toArray) (os:=os) B (by rw[O,hs];simp[c];omega);obtain⟨w1,w2⟩:=iT (enc:=e) (w:=w) (g:=b) (m:=n) (d:=(l.mergeSort λx y=>!(ltOf cf) y x).toArray) (os:=os);subst f;refine⟨_,he,⟨(),rfl,N _ ⟨?_,.inr ⟨b,cap,_,r,W,q1,X,Y,by rw[q3];exact O,?_⟩⟩ ⟨w1,λk hk i=>w2 k hk (λq=>i ((u k).2 q))⟩⟩,⟨rfl,Nat.le_add_right _ _⟩⟩
  ·rw[a,hs];simp[c,i]
  ·rw[a,hs,Nat.mul_one,i];have:(l.mergeSort λx y=>!(ltOf cf) y x).toArray.size=l.length:=by simp[c]
   rw[this] at S;rw[S]
end Go.Proofs.YtmkbhnholcaghaaGreatDoor
