/-
 Ground, twelfth text: a range over a map, told by the list of entries that were met.
-/
import Derived.Test.YtkehfflpbpdokaaGreatDoorFxk
open List renaming mem_cons->Ku,mem_map_of_mem->Lp
namespace Go.Proofs.YtkehfflpbpdokaaGreatDoor
open Go.MapKept
theorem rK {es:Array MapEntry}{clk:Nat}(h:Stamped es clk):es.toList.Nodup:=by
 have:=h.2.1
 unfold List.Nodup at this ⊢
 rw[List.pairwise_map] at this
 exact this.imp λhne e=>hne (by rw[e])
theorem ue {es:Array MapEntry}{clk:Nat}(h:Stamped es clk){x y:MapEntry}(hx:x∈es.toList)(hy:y∈es.toList)(hb:x.born=y.born):x=y:=by
 have key:∀l:List MapEntry,(l.map (·.born)).Nodup->x∈l->y∈l->x=y:=by
  intro l
  induction l with
  |nil=>intro _ h;cases h
  |cons a l ih=>
    intro hn h1 h2
    rw[List.map_cons,List.nodup_cons] at hn
    rcases Ku.1 h1 with e1|q1<;>rcases Ku.1 h2 with e2|q2
    ·rw[e1,e2]
    ·exact absurd (by rw[<-e1,hb];exact Lp q2) hn.1
    ·exact absurd (by rw[<-e2,<-hb];exact Lp q1) hn.1
    ·exact ih hn.2 q1 q2
 exact key _ h.2.1 hx hy
end Go.Proofs.YtkehfflpbpdokaaGreatDoor
