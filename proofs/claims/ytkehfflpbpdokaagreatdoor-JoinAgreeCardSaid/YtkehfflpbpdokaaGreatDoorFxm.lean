/-
 Ground, twelfth text: a range over a map, told by the list of entries that were met.
-/
import Derived.Test.YtkehfflpbpdokaaGreatDoorFxk
open List renaming mem_cons->Qs,mem_map_of_mem->Ru
namespace Go.Proofs.YtkehfflpbpdokaaGreatDoor
open Go.MapKept
theorem vd {es:Array MapEntry}{clk:Nat}(h:Stamped es clk):es.toList.Nodup:=by
 have:=h.2.1;unfold List.Nodup at this ⊢;rw[List.pairwise_map] at this;exact this.imp λa e=>a (by rw[e])
theorem xC {es:Array MapEntry}{clk:Nat}(h:Stamped es clk){x y:MapEntry}(g:x∈es.toList)(i:y∈es.toList)(c:x.born=y.born):x=y:=by
 have key:∀l:List MapEntry,(l.map (·.born)).Nodup->x∈l->y∈l->x=y:=by
  intro l
  induction l with
  |nil=>intro _ h;cases h
  |cons a l j=>
    intro b h1 k;rw[List.map_cons,List.nodup_cons] at b;rcases Qs.1 h1 with d|e<;>rcases Qs.1 k with e2|f
    ·rw[d,e2]
    ·exact absurd (by rw[<-d,c];exact Ru f) b.1
    ·exact absurd (by rw[<-e2,<-c];exact Ru e) b.1
    ·exact j b.2 e f
 exact key _ h.2.1 g i
end Go.Proofs.YtkehfflpbpdokaaGreatDoor
