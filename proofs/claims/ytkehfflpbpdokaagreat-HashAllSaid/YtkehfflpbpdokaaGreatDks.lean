/-
 The library's sorting of integers and of texts, said of the heap.
-/
import Derived.Test.YtkehfflpbpdokaaGreatVc
import Derived.Test.YtkehfflpbpdokaaGreatFxk
import Derived.Test.YtkehfflpbpdokaaGreatLay
namespace Go.Proofs.YtkehfflpbpdokaaGreat
def EN : Enc (List UInt8) := ⟨1, fun x => [.string ⟨x.toArray⟩], fun _ => rfl, fun x u hu => by simp at hu; subst hu; rfl⟩
theorem EN_all (l : List (List UInt8)) : EN.all l = l.map fun x => .string ⟨x.toArray⟩ := by
 induction l with
 | nil => rfl
 | cons x l ih =>
   have e1 : EN.all (x :: l) = .string ⟨x.toArray⟩ :: EN.all l := rfl
   rw [e1, ih]; rfl
theorem sorted_heap {α : Type} [Inhabited α] {enc : α → Value} {w : World} {g n : Nat} {cur : Array Value} {e : TypeId} {d : Array α} {os : Array Obj} (hg : w.heap[g]? = some (.cells cur e (0, 0))) (hd : d.size ≤ cur.size) :
  (Sort.grow (Sort.putRow enc (Sort.ahead w n) g 0 d) os).heap[g]? = some (.cells (Sort.putCells enc 0 d cur) e (0, 0)) ∧
  Mod (fun b => b = g) w.heap (Sort.grow (Sort.putRow enc (Sort.ahead w n) g 0 d) os).heap ∧ (Sort.putCells enc 0 d cur).size = cur.size ∧ (Sort.putCells enc 0 d cur).toList.take d.size = d.toList.map enc := by
 have hlt : g < w.heap.size := obj_lt hg
 refine ⟨?_, ⟨?_, fun b hb hn => ?_⟩, by simp [Sort.putCells], ?_⟩
 ·simp only [Sort.grow, Sort.putRow, Sort.mapBlock, Sort.ahead]
  rw [Array.getElem?_append_left (by simpa using hlt), Array.getElem?_modify, if_pos rfl, hg]
  rfl
 ·simp [Sort.grow, Sort.putRow, Sort.mapBlock, Sort.ahead]
 ·simp only [Sort.grow, Sort.putRow, Sort.mapBlock, Sort.ahead]
  rw [Array.getElem?_append_left (by simpa using hb), Array.getElem?_modify, if_neg (Ne.symm hn)]
 ·apply List.ext_getElem?
  intro k
  rw [List.getElem?_take]
  by_cases hk : k < d.size
  ·rw [if_pos hk]
   simp [Sort.putCells]
   rw [Array.getElem?_eq_getElem (by omega)]
   simp [hk]
  ·rw [if_neg hk, List.getElem?_eq_none (by simp; omega)]
end Go.Proofs.YtkehfflpbpdokaaGreat
