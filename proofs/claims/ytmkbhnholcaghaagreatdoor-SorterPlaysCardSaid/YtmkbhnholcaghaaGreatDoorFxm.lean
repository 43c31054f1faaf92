/-
 Ground, twelfth text: a range over a map, told by the list of entries that were met.
-/
import Derived.Test.YtmkbhnholcaghaaGreatDoorFxk
open List renaming mem_append->Oe,mem_cons->Oq,map_cons->Ox,nodup_append->PU,nodup_cons->Qv,mem_map_of_mem->QD
open List.Nodup renaming length_le_of_subset->QG
namespace Go.Proofs.YtmkbhnholcaghaaGreatDoor
open Go.MapKept
theorem nt {es:Array MapEntry}{clk:Nat}(h:Stamped es clk):es.toList.Nodup:=by
 have:=h.2.1;unfold List.Nodup at this ⊢;rw[List.pairwise_map] at this;exact this.imp λa e=>a (by rw[e])
theorem oU {es:Array MapEntry}{clk:Nat}(h:Stamped es clk){x y:MapEntry}(g:x∈es.toList)(i:y∈es.toList)(c:x.born=y.born):x=y:=by
 have key:∀l:List MapEntry,(l.map (·.born)).Nodup->x∈l->y∈l->x=y:=by
  intro l
  induction l with
  |nil=>intro _ h;cases h
  |cons a l j=>
    intro b h1 k;rw[Ox,Qv] at b;rcases Oq.1 h1 with d|e<;>rcases Oq.1 k with e2|f
    ·rw[d,e2]
    ·exact absurd (by rw[<-d,c];exact QD f) b.1
    ·exact absurd (by rw[<-e2,<-c];exact QD e) b.1
    ·exact j b.2 e f
 exact key _ h.2.1 g i
theorem xE {es:Array MapEntry}{clk:Nat}(h:Stamped es clk){x y:MapEntry}(g:x∈es.toList)(i:y∈es.toList)(c:x.key=y.key):x=y:=by
 have key:∀l:List MapEntry,(l.map (·.key)).Nodup->x∈l->y∈l->x=y:=by
  intro l
  induction l with
  |nil=>intro _ h;cases h
  |cons a l j=>
    intro b h1 k;rw[Ox,Qv] at b;rcases Oq.1 h1 with d|e<;>rcases Oq.1 k with e2|f
    ·rw[d,e2]
    ·exact absurd (by rw[<-d,c];exact QD f) b.1
    ·exact absurd (by rw[<-e2,<-c];exact QD e) b.1
    ·exact j b.2 e f
 exact key _ h.2.2 g i
theorem qd {P:Program}{d:TypeDesc}{H:aa}{r:Nat}{es:Array MapEntry}{clk it:Nat}{α:Type}{x0:α}{ty:TypeId}
  {B:(α->aa->Prop)->α->(Value×Value)->aa->Prop} {E:α->aa->Prop} (I:List MapEntry->α->aa->Prop)
  (hm:ca d H r es clk) (D:H[it]?=some (.mapIter (some r) clk #[] clk)) (S:I [] x0 H)
  (F:∀l x A f,I l x A->Mod (λb=>b=it) A f->f.size=A.size->I l x f)
  (hs:∀l e x A next,I l x A->e∈es.toList->e∉l->(∀y∈l,y∈es.toList)->l.Nodup->A[r]?=some (.map es clk)->(∃o,A[it]?=some o)->
   (∀G f,I (l++[e]) G f->f[r]?=A[r]?->f[it]?=A[it]?->next G f)->B next x (e.key,e.val) A)
  (T:∀l x A,I l x A->l.Perm es.toList->A[r]?=some (.map es clk)->E x A):
  aw α x0 H (λnext x U=>ba fW P (Instr.next (.pointer (some ⟨it,0,none⟩)) false ty) U λ(V:Bool×List Value) O=>
   br V.1 (ba oH P (Instr.entry (.pointer (some ⟨it,0,none⟩))) O λ(W:Value×Value) X=>B next x W X) (E x O)):=by
 have i:=hm.stamped;have J:=nt i;refine⟨List MapEntry,λl x A=>I l x A/\A[it]?=some (.mapIter (some r) clk (l.map (·.born)).toArray clk)/\A[r]?=some (.map es clk)/\l.Nodup/\(∀y∈l,y∈es.toList),λl=>es.size - l.length,⟨[],S,by simpa using D,hm.obj,List.nodup_nil,by simp⟩,?_⟩;rintro l x A ⟨Q,hi,n,hl,c⟩;have p:ca d A r es clk:=⟨n,i,hm.keys⟩;have s:r≠it:=by intro e;rw[<-e,n] at hi;cases hi
 refine Ei p hi ?_ ?_
 ·intro e he t f j g K;have k:e∉l:=λh=>by
   have:(l.map (·.born)).toArray.contains e.born=true:=by simp;exact⟨e,h,rfl⟩
   rw[this] at t;cases t
  have u:f[r]?=some (.map es clk):=(g.same r (aA n) s).trans n;refine Db (p.mod g s) j he ?_;refine hs l e x f _ (F l x A f Q g K) he k c hl u ⟨_,j⟩ λG Y v h1 Z=>⟨l++[e],⟨v,?_,by rw[h1];exact u,?_,?_⟩,?_⟩
  ·rw[Z,j];simp
  ·rw[PU];exact⟨hl,by simp,by intro a L b w;simp at w;subst w;intro e2;subst e2;exact k L⟩
  ·intro y m;rcases Oe.1 m with q|q
   ·exact c y q
   ·simp at q;subst q;exact he
  ·have M:(l++[e]).length<=es.toList.length:=by
    refine QG ?_ ?_
    ·rw[PU];exact⟨hl,by simp,by intro a L b w;simp at w;subst w;intro e2;subst e2;exact k L⟩
    ·intro y m;rcases Oe.1 m with q|q
     ·exact c y q
     ·simp at q;subst q;exact he
   simp at M ⊢;omega
 ·intro C;refine T l x A Q ?_ n;rw[List.perm_ext_iff_of_nodup hl J];intro y;refine⟨c y,λm=>?_⟩;have h1:=C y m;simp at h1;obtain⟨z,R,N⟩:=h1;have:=oU i (c z R) m N;rw[<-this];exact R
end Go.Proofs.YtmkbhnholcaghaaGreatDoor
