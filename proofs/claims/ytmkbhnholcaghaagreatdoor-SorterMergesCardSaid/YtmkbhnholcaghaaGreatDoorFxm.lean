/-
 Ground, twelfth text: a range over a map, told by the list of entries that were met.
-/
import Derived.Test.YtmkbhnholcaghaaGreatDoorFxk
open List renaming mem_append->Ox,mem_cons->OG,map_cons->OJ,nodup_append->Qb,nodup_cons->QJ,mem_map_of_mem->Q4
open List.Nodup renaming length_le_of_subset->QT
namespace Go.Proofs.YtmkbhnholcaghaaGreatDoor
open Go.MapKept
theorem nG {es:Array MapEntry}{clk:Nat}(h:Stamped es clk):es.toList.Nodup:=by
 have:=h.2.1;unfold List.Nodup at this ⊢;rw[List.pairwise_map] at this;exact this.imp λa e=>a (by rw[e])
theorem pa {es:Array MapEntry}{clk:Nat}(h:Stamped es clk){x y:MapEntry}(g:x∈es.toList)(i:y∈es.toList)(c:x.born=y.born):x=y:=by
 have key:∀l:List MapEntry,(l.map (·.born)).Nodup->x∈l->y∈l->x=y:=by
  intro l
  induction l with
  |nil=>intro _ h;cases h
  |cons a l j=>
    intro b h1 k;rw[OJ,QJ] at b;rcases OG.1 h1 with d|e<;>rcases OG.1 k with e2|f
    ·rw[d,e2]
    ·exact absurd (by rw[<-d,c];exact Q4 f) b.1
    ·exact absurd (by rw[<-e2,<-c];exact Q4 e) b.1
    ·exact j b.2 e f
 exact key _ h.2.1 g i
theorem xO {es:Array MapEntry}{clk:Nat}(h:Stamped es clk){x y:MapEntry}(g:x∈es.toList)(i:y∈es.toList)(c:x.key=y.key):x=y:=by
 have key:∀l:List MapEntry,(l.map (·.key)).Nodup->x∈l->y∈l->x=y:=by
  intro l
  induction l with
  |nil=>intro _ h;cases h
  |cons a l j=>
    intro b h1 k;rw[OJ,QJ] at b;rcases OG.1 h1 with d|e<;>rcases OG.1 k with e2|f
    ·rw[d,e2]
    ·exact absurd (by rw[<-d,c];exact Q4 f) b.1
    ·exact absurd (by rw[<-e2,<-c];exact Q4 e) b.1
    ·exact j b.2 e f
 exact key _ h.2.2 g i
theorem qo {P:Program}{d:TypeDesc}{H:aa}{r:Nat}{es:Array MapEntry}{clk it:Nat}{α:Type}{x0:α}{ty:TypeId}
  {B:(α->aa->Prop)->α->(Value×Value)->aa->Prop} {E:α->aa->Prop} (I:List MapEntry->α->aa->Prop)
  (hm:cc d H r es clk) (D:H[it]?=some (.mapIter (some r) clk #[] clk)) (R:I [] x0 H)
  (F:∀l x A f,I l x A->Mod (λb=>b=it) A f->f.size=A.size->I l x f)
  (hs:∀l e x A next,I l x A->e∈es.toList->e∉l->(∀y∈l,y∈es.toList)->l.Nodup->A[r]?=some (.map es clk)->(∃o,A[it]?=some o)->
   (∀x' f,I (l++[e]) x' f->f[r]?=A[r]?->f[it]?=A[it]?->next x' f)->B next x (e.key,e.val) A)
  (S:∀l x A,I l x A->l.Perm es.toList->A[r]?=some (.map es clk)->E x A):
  ax α x0 H (λnext x T=>bf gd P (Instr.next (.pointer (some ⟨it,0,none⟩)) false ty) T λ(U:Bool×List Value) N=>
   br U.1 (bf oM P (Instr.entry (.pointer (some ⟨it,0,none⟩))) N λ(V:Value×Value) W=>B next x V W) (E x N)):=by
 have i:=hm.stamped;have G:=nG i;refine⟨List MapEntry,λl x A=>I l x A/\A[it]?=some (.mapIter (some r) clk (l.map (·.born)).toArray clk)/\A[r]?=some (.map es clk)/\l.Nodup/\(∀y∈l,y∈es.toList),λl=>es.size - l.length,⟨[],R,by simpa using D,hm.obj,List.nodup_nil,by simp⟩,?_⟩;rintro l x A ⟨O,hi,n,hl,c⟩;have p:cc d A r es clk:=⟨n,i,hm.keys⟩;have s:r≠it:=by intro e;rw[<-e,n] at hi;cases hi
 refine Ex p hi ?_ ?_
 ·intro e he t f j g J;have k:e∉l:=λh=>by
   have:(l.map (·.born)).toArray.contains e.born=true:=by simp;exact⟨e,h,rfl⟩
   rw[this] at t;cases t
  have u:f[r]?=some (.map es clk):=(g.same r (aA n) s).trans n;refine Ds (p.mod g s) j he ?_;refine hs l e x f _ (F l x A f O g J) he k c hl u ⟨_,j⟩ λx' X v h1 Y=>⟨l++[e],⟨v,?_,by rw[h1];exact u,?_,?_⟩,?_⟩
  ·rw[Y,j];simp
  ·rw[Qb];exact⟨hl,by simp,by intro a K b w;simp at w;subst w;intro e2;subst e2;exact k K⟩
  ·intro y m;rcases Ox.1 m with q|q
   ·exact c y q
   ·simp at q;subst q;exact he
  ·have L:(l++[e]).length<=es.toList.length:=by
    refine QT ?_ ?_
    ·rw[Qb];exact⟨hl,by simp,by intro a K b w;simp at w;subst w;intro e2;subst e2;exact k K⟩
    ·intro y m;rcases Ox.1 m with q|q
     ·exact c y q
     ·simp at q;subst q;exact he
   simp at L ⊢;omega
 ·intro C;refine S l x A O ?_ n;rw[List.perm_ext_iff_of_nodup hl G];intro y;refine⟨c y,λm=>?_⟩;have h1:=C y m;simp at h1;obtain⟨z,Q,M⟩:=h1;have:=pa i (c z Q) m M;rw[<-this];exact Q
end Go.Proofs.YtmkbhnholcaghaaGreatDoor
