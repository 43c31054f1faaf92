/-
 Ground, seventeenth text: slices.SortFunc, said of the heap: the closure by its contract on heaps.
-/
import Derived.Test.YtkehfflpbpdokaaGreatDoorFxk
import Derived.Shelf.SlSortCmp.NoneTotal
open Array renaming getElem?_modify->Tw,getElem?_append_left->T6
open Go.Proofs.Any renaming slices_SortFunc_total->Yv
open Go.Proofs.AnyF renaming slices_SortFunc_none->Vo
open Go.Proofs.SlLaysF renaming n6->Yg
open Go.Sort renaming putCells->SO,putRow->TK,grow->TR,ahead->TZ,mapBlock->Up
open Go.Value.slice renaming injEq->Q3
open List renaming getElem?_take->Rb
open Nat renaming zero_add->Ry
namespace Go.Proofs.YtkehfflpbpdokaaGreatDoor
open Go.Shelf Go.Sort
theorem l8 {α:Type} [Inhabited α]{enc:α->Value}{w:World}{g m:Nat}{d:Array α}{os:Array Obj}:
  w.heap.size<=(sortWorld enc w g 0 m d os).heap.size/\∀b,b<w.heap.size->b≠g->(sortWorld enc w g 0 m d os).heap[b]?=w.heap[b]?:=by
 refine⟨by simp[sortWorld,TR,TK,Up,TZ],λb a c=>?_⟩;simp only[sortWorld,TR,TK,Up,TZ];rw[T6 (by simpa using a),Tw,if_neg (Ne.symm c)]
theorem vp {α:Type} [Inhabited α]{enc:α->Value}{w:World}{g n:Nat}{cur:Array Value}{e:TypeId}{d:Array α}{os:Array Obj}(b:w.heap[g]?=some (.cells cur e (0,0)))(hd:d.size<=cur.size):
  (sortWorld enc w g 0 n d os).heap[g]?=some (.cells (SO enc 0 d cur) e (0,0))/\(SO enc 0 d cur).size=cur.size/\(SO enc 0 d cur).toList.take d.size=d.toList.map enc:=by
 have a:g<w.heap.size:=aI b;refine⟨?_,by simp[SO],?_⟩
 ·simp only[sortWorld,TR,TK,Up,TZ];rw[T6 (by simpa using a),Tw,if_pos rfl,b];rfl
 ·apply List.ext_getElem?;intro k;rw[Rb];by_cases hk:k<d.size
  ·rw[if_pos hk];simp[SO];rw[Array.getElem?_eq_getElem (by omega)];simp[hk]
  ·rw[if_neg hk,List.getElem?_eq_none (by simp;omega)]
theorem zH {H H':aa}(e:Mod (λ_=>False) H H'):∃os:Array Obj,H'=H++os:=by
 refine⟨H'.extract H.size H'.size,?_⟩;apply Array.ext_getElem?;intro i;rw[Array.getElem?_append];split
 ·rename_i h;exact e.same i h id
 ·rename_i h;rw[Array.getElem?_extract];have hs:=e.size;by_cases a:i<H'.size
  ·rw[if_pos (by omega)];congr 1;omega
  ·rw[if_neg (by omega),Array.getElem?_eq_none (by omega)]
theorem Hy {P:Program}{g:Nat}{cb:Array Value}{α:Type} [Inhabited α]{enc:α->Value}{cf:α->α->Int}{a size:Nat}{w:World}
  (h:∀H:aa,w.heap.size<=H.size->(∀b,b<w.heap.size->b≠a->H[b]?=w.heap[b]?)->∀x y,Spec P g (#[enc x,enc y]++cb) H λv H'=>v=.int .i64 (cf x y)/\Mod (λ_=>False) H H'):
  CmpLays1 P g cb enc cf a 0 size w:=by
 intro m os f _ x y;obtain⟨h1,k⟩:=l8 (enc:=enc) (w:=w) (g:=a) (m:=m) (d:=f) (os:=os);refine(h _ h1 k x y (sortWorld enc w a 0 m f os) rfl).mono λe w' ⟨v,he,⟨l,hm⟩,c⟩=>?_;subst l;refine⟨he,w'.drawn - (sortWorld enc w a 0 m f os).drawn,?_⟩;obtain⟨i,j⟩:=zH hm;refine⟨i,?_⟩;have hd:=c.drawn;have hr:=c.rest;generalize sortWorld enc w a 0 m f os=W at*;rw[hr,j];unfold TR World.drewN;have:W.drawn+(w'.drawn - W.drawn)=w'.drawn:=by omega
 rw[this]
theorem vA {P:Program}{ρ:Ren}(L:Yg P ρ){α:Type} [Inhabited α]{E:kK α}{e:α->Value}(I:∀x,E.enc x=[e x])(hs:E.size=1){cf:α->α->Int}(hO:SWO (ltOf cf))
  (S:∀x y,(ltOf cf) x y=false->(ltOf cf) y x=false->x=y) {g:Nat} {cb:Array Value} (T:∀args w,(callFunc g args).run P w=.ok (.enter g args) w) {J:TypeId} {H:aa} {s:Sl} {l:List α} (h:dm E J H s l) (U:l.length<4611686018427387904)
  (t:∀H',Mod (al s) H H'->∀x y,Spec P g (#[e x,e y]++cb) H' λv C=>v=.int .i64 (cf x y)/\Mod (λ_=>False) H' C)
  {K:Unit->aa->Prop} (M:∀H',dm E J H' s (l.mergeSort λx y=>!(ltOf cf) y x)->Mod (al s) H H'->K () H'):an (bf []) P (ρ.f 6) #[s.v,.func (.func g) #[] cb] H K:=by
 intro w hw;subst hw;have a:∀l:List α,E.all l=l.map e:=by
  intro l
  induction l with
  |nil=>rfl
  |cons x l V=>
    have:E.all (x::l)=E.enc x++E.all l:=rfl;rw[this,I,V];rfl
 rcases id h.2 with ⟨r,e2⟩|⟨b,cap,cur,r,W,A,X,Y,N,Z⟩
 ·have i:=h.n (by omega);have D:l=[]:=List.eq_nil_of_length_eq_zero (by omega);have B:=Vo (P:=P) (ρ:=ρ) {L with} none 0 (.func (.func g) #[] cb) w;rw[r];refine B.mono λe w' ⟨he,f⟩=>?_;subst f;subst D;exact⟨_,he,⟨(),rfl,M _ (by simpa using h) (.refl _ _)⟩,.refl _⟩
 ·have i:=h.n (by omega);have u:∀k,al s k↔k=b:=by
   intro k;have O:s.a=some ⟨b,0,none⟩:=by cases s;simp only[Sl.v,Q3] at r;exact r.1
   constructor
   ·rintro⟨ad,h1,h2⟩;rw[O] at h1;cases h1;exact h2.symm
   ·rintro rfl;exact⟨_,O,rfl⟩
  have hH:Sort.Holds e w b 0 l.toArray:=by
   intro j hj;have z:j<l.length:=by simpa using hj
   have Q:(E.all l)[j]?=some (e l[j]):=by rw[a];simp[z]
   rw[<-Z,Rb,if_pos (by rw[hs];omega)] at Q;refine⟨?_,?_⟩
   ·rw[Ry];have:=dh (o:=j) A (by simpa using Q);simp[z];exact this
   ·rw[Ry];exact fV A
  have F:OneCell e:=λx=>by
   have:=E.one x (e x) (by rw[I];simp);exact this
  have B:=Yv L e F cf hO g cb b 0 cap l.toArray w T (Hy λH' c p x y=>t H' ⟨c,λk hk i=>p k hk (λq=>i ((u k).2 q))⟩ x y) hH (aI A) (by simpa using U) S;rw[r,i];have hlen:(l.toArray).size=l.length:=by simp
  rw[hlen] at B;refine B.mono λev w' ⟨he,n,os,f⟩=>?_;have hm:=List.mergeSort_perm l (λx y=>!(ltOf cf) y x);have c:(l.mergeSort λx y=>!(ltOf cf) y x).length=l.length:=hm.length_eq;have G:l.toArray.toList=l:=by simp
  rw[G] at f;obtain⟨q1,q3,R⟩:=vp (enc:=e) (n:=n) (d:=(l.mergeSort λx y=>!(ltOf cf) y x).toArray) (os:=os) A (by rw[N,hs];simp[c];omega);obtain⟨w1,w2⟩:=l8 (enc:=e) (w:=w) (g:=b) (m:=n) (d:=(l.mergeSort λx y=>!(ltOf cf) y x).toArray) (os:=os);subst f;refine⟨_,he,⟨(),rfl,M _ ⟨?_,.inr ⟨b,cap,_,r,W,q1,X,Y,by rw[q3];exact N,?_⟩⟩ ⟨w1,λk hk i=>w2 k hk (λq=>i ((u k).2 q))⟩⟩,⟨rfl,Nat.le_add_right _ _⟩⟩
  ·rw[a,hs];simp[c,i]
  ·rw[a,hs,Nat.mul_one,i];have:(l.mergeSort λx y=>!(ltOf cf) y x).toArray.size=l.length:=by simp[c]
   rw[this] at R;rw[R]
end Go.Proofs.YtkehfflpbpdokaaGreatDoor
