/-
 Ground: slices.SortFunc by an order in which two things may stand alike: some sorted permutation.
-/
import Derived.Test.YtacfhncgbgijhaaGreatFxq
namespace Go.Proofs.YtacfhncgbgijhaaGreat
open Go.Shelf Go.Sort
theorem tN {P:Program} {ρ:Ren} (L:SlLaysF.n6 P ρ) {α:Type} [Inhabited α] {E:gr α} {e:α→Value} (hE:∀x,E.enc x=[e x]) (hs:E.size=1) {cf:α→α→Int} (hO:SWO (ltOf cf))
  {g:Nat} {cb:Array Value} (eg:∀args w,(callFunc g args).run P w=.ok (.enter g args) w) {et:TypeId} {H:aa} {s:Sl} {l:List α} (h:bc E et H s l) (hl:l.length<4611686018427387904)
  (hcmp:∀H',Mod (ai s) H H'→∀x y,Spec P g (#[e x,e y]++cb) H' fun v H''=>v=.int .i64 (cf x y)∧Mod (fun _=>False) H' H'')
  {K:Unit→aa→Prop} (hK:∀l' H',l'.Perm l→l'.Pairwise (fun x y=>ltOf cf y x=false)→bc E et H' s l'→Mod (ai s) H H'→K () H'):ah (aT []) P (ρ.f 6) #[s.v,.func (.func g) #[] cb] H K:=by
 intro w hw
 subst hw
 have hall:∀l:List α,E.all l=l.map e:=by
  intro l
  induction l with
  |nil=>rfl
  |cons x l ih=>
    have:E.all (x::l)=E.enc x++E.all l:=rfl
    rw[this,hE,ih];rfl
 rcases id h.2 with ⟨e1,e2⟩|⟨b,cap,cur,e1,hb,hg,h4,h5,h6,h7⟩
 ·have hn:=h.n (by omega)
  have hl0:l=[]:=List.eq_nil_of_length_eq_zero (by omega)
  have hc:=AnyF.slices_SortFunc_none (P:=P) (ρ:=ρ) {L with} none 0 (.func (.func g) #[] cb) w
  rw[e1]
  refine hc.mono fun e w' ⟨he,hw'⟩=>?_
  subst hw'
  subst hl0
  exact⟨_,he,⟨(),rfl,hK [] _ (.refl _) List.Pairwise.nil h (.refl _ _)⟩,.refl _⟩
 ·have hn:=h.n (by omega)
  have hsa:∀k,ai s k↔k=b:=by
   intro k
   have ha:s.a=some ⟨b,0,none⟩:=by cases s;simp only[Sl.v,Value.slice.injEq] at e1;exact e1.1
   constructor
   ·rintro⟨ad,h1,h2⟩
    rw[ha] at h1;cases h1;exact h2.symm
   ·rintro rfl;exact⟨_,ha,rfl⟩
  have hH:Sort.Holds e w b 0 l.toArray:=by
   intro j hj
   have hj':j<l.length:=by simpa using hj
   have hv:(E.all l)[j]?=some (e l[j]):=by rw[hall];simp[hj']
   rw[←h7,List.getElem?_take,if_pos (by rw[hs];omega)] at hv
   refine⟨?_,?_⟩
   ·rw[Nat.zero_add]
    have:=di (o:=j) hg (by simpa using hv)
    simp[hj']
    exact this
   ·rw[Nat.zero_add];exact dU hg
  have hO1:OneCell e:=fun x=>by
   have:=E.one x (e x) (by rw[hE];simp)
   exact this
  have hc:=Any.slices_SortFunc L e hO1 cf hO g cb b 0 cap l.toArray w eg (xJ fun H' hsz hsame x y=>hcmp H' ⟨hsz,fun k hk hn=>hsame k hk (fun q=>hn ((hsa k).2 q))⟩ x y) hH (aL hg) (by simpa using hl)
  rw[e1,hn]
  have hlen:(l.toArray).size=l.length:=by simp
  rw[hlen] at hc
  refine hc.mono fun ev w' ⟨he,d',n,os,hP,hSo,hw'⟩=>?_
  obtain⟨hsz,_,hperm⟩:=hP
  have ex:d'.extract 0 l.length=d':=by
   have:d'.size=l.length:=by rw[hsz];simp
   rw[←this];exact Array.extract_size
  have ey:l.toArray.extract 0 l.length=l.toArray:=by
   have:=Array.extract_size (xs:=l.toArray)
   rwa [hlen] at this
  rw[ex,ey] at hperm
  have hd:d'.size=l.length:=by rw[hsz];simp
  have hpw:d'.toList.Pairwise (fun x y=>ltOf cf y x=false):=by
   rw[List.pairwise_iff_getElem]
   intro i j hi hj hij
   have hi':i<d'.size:=by simpa using hi
   have hj':j<d'.size:=by simpa using hj
   have:=hSo i j (Nat.zero_le _) hij (by omega)
   rw[getElem!_pos d' j hj',getElem!_pos d' i hi'] at this
   simpa using this
  obtain⟨q1,q3,q4⟩:=lD (enc:=e) (n:=n) (d:=d') (os:=os) hg (by rw[h6,hs,hd];omega)
  obtain⟨w1,w2⟩:=iK (enc:=e) (w:=w) (g:=b) (m:=n) (d:=d') (os:=os)
  subst hw'
  refine⟨_,he,⟨(),rfl,hK d'.toList _ (by simpa using hperm) hpw ⟨?_,.inr ⟨b,cap,_,e1,hb,q1,h4,h5,by rw[q3];exact h6,?_⟩⟩ ⟨w1,fun k hk hn=>w2 k hk (fun q=>hn ((hsa k).2 q))⟩⟩,⟨rfl,Nat.le_add_right _ _⟩⟩
  ·rw[hall,hs];simp[hd,hn]
  ·rw[hall,hs,Nat.mul_one,hn]
   rw[hd] at q4
   exact q4
end Go.Proofs.YtacfhncgbgijhaaGreat
