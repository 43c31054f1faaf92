/-
 Ground: slices.SortFunc by an order in which two things may stand alike: some sorted permutation.
-/
import Derived.Test.YtmkbhnholcaghaaGreatDoorFxq
open Array renaming extract_size->VF
open Go.Proofs.Any renaming slices_SortFunc->Wf
open Go.Proofs.AnyF renaming slices_SortFunc_none->RY
open Go.Proofs.SlLaysF renaming n6->TF
open Go.Value.slice renaming injEq->Ov
open List.Pairwise renaming nil->Sd
open Nat renaming zero_add->Pt
namespace Go.Proofs.YtmkbhnholcaghaaGreatDoor
open Go.Shelf Go.Sort
theorem tK {P:Program}{ρ:Ren}(L:TF P ρ){α:Type} [Inhabited α]{E:eJ α}{e:α->Value}(U:∀x,E.enc x=[e x])(hs:E.size=1){cf:α->α->Int}(hO:SWO (ltOf cf))
  {g:Nat} {D:Array Value} (eg:∀args w,(callFunc g args).run P w=.ok (.enter g args) w) {V:TypeId} {H:aa} {s:Sl} {l:List α} (h:az E V H s l) (hl:l.length<4611686018427387904)
  (B:∀H',Mod (ag s) H H'->∀x y,Spec P g (#[e x,e y]++D) H' λv I=>v=.int .i64 (cf x y)/\Mod (λ_=>False) H' I)
  {K:Unit->aa->Prop} (W:∀J H',J.Perm l->J.Pairwise (λx y=>ltOf cf y x=false)->az E V H' s J->Mod (ag s) H H'->K () H'):ai (aR []) P (ρ.f 6) #[s.v,.func (.func g) #[] D] H K:=by
 intro w hw;subst hw;have c:∀l:List α,E.all l=l.map e:=by
  intro l
  induction l with
  |nil=>rfl
  |cons x l ih=>
    have:E.all (x::l)=E.enc x++E.all l:=rfl;rw[this,U,ih];rfl
 rcases id h.2 with ⟨A,e2⟩|⟨b,cap,cur,A,hb,F,h4,h5,X,h7⟩
 ·have t:=h.n (by omega);have M:l=[]:=List.eq_nil_of_length_eq_zero (by omega);have G:=RY (P:=P) (ρ:=ρ) {L with} none 0 (.func (.func g) #[] D) w;rw[A];refine G.mono λe w' ⟨he,u⟩=>?_;subst u;subst M;exact⟨_,he,⟨(),rfl,W [] _ (.refl _) Sd h (.refl _ _)⟩,.refl _⟩
 ·have t:=h.n (by omega);have C:∀k,ag s k↔k=b:=by
   intro k;have Y:s.a=some ⟨b,0,none⟩:=by cases s;simp only[Sl.v,Ov] at A;exact A.1
   constructor
   ·rintro⟨ad,h1,h2⟩;rw[Y] at h1;cases h1;exact h2.symm
   ·rintro rfl;exact⟨_,Y,rfl⟩
  have hH:Sort.Holds e w b 0 l.toArray:=by
   intro j N;have p:j<l.length:=by simpa using N
   have Z:(E.all l)[j]?=some (e l[j]):=by rw[c];simp[p]
   rw[<-h7,List.getElem?_take,if_pos (by rw[hs];omega)] at Z;refine⟨?_,?_⟩
   ·rw[Pt];have:=cq (o:=j) F (by simpa using Z);simp[p];exact this
   ·rw[Pt];exact dv F
  have O:OneCell e:=λx=>by
   have:=E.one x (e x) (by rw[U];simp);exact this
  have G:=Wf L e O cf hO g D b 0 cap l.toArray w eg (wX λH' r z x y=>B H' ⟨r,λk hk t=>z k hk (λq=>t ((C k).2 q))⟩ x y) hH (aA F) (by simpa using hl);rw[A,t];have hlen:(l.toArray).size=l.length:=by simp
  rw[hlen] at G;refine G.mono λev w' ⟨he,a,n,os,hP,Q,u⟩=>?_;obtain⟨r,_,f⟩:=hP;have ex:a.extract 0 l.length=a:=by
   have:a.size=l.length:=by rw[r];simp
   rw[<-this];exact VF
  have ey:l.toArray.extract 0 l.length=l.toArray:=by
   have:=VF (xs:=l.toArray)
   rwa [hlen] at this
  rw[ex,ey] at f;have hd:a.size=l.length:=by rw[r];simp
  have R:a.toList.Pairwise (λx y=>ltOf cf y x=false):=by
   rw[List.pairwise_iff_getElem];intro i j hi N S;have T:i<a.size:=by simpa using hi
   have p:j<a.size:=by simpa using N
   have:=Q i j (Nat.zero_le _) S (by omega);rw[getElem!_pos a j p,getElem!_pos a i T] at this;simpa using this
  obtain⟨q1,q3,q4⟩:=np (enc:=e) (n:=n) (d:=a) (os:=os) F (by rw[X,hs,hd];omega);obtain⟨w1,w2⟩:=iR (enc:=e) (w:=w) (g:=b) (m:=n) (d:=a) (os:=os);subst u;refine⟨_,he,⟨(),rfl,W a.toList _ (by simpa using f) R ⟨?_,.inr ⟨b,cap,_,A,hb,q1,h4,h5,by rw[q3];exact X,?_⟩⟩ ⟨w1,λk hk t=>w2 k hk (λq=>t ((C k).2 q))⟩⟩,⟨rfl,Nat.le_add_right _ _⟩⟩
  ·rw[c,hs];simp[hd,t]
  ·rw[c,hs,Nat.mul_one,t];rw[hd] at q4;exact q4
end Go.Proofs.YtmkbhnholcaghaaGreatDoor
