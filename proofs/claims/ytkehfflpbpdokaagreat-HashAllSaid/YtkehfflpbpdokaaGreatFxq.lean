/-
 Ground, seventeenth text: slices.SortFunc, said of the heap: the closure by its contract on heaps.
-/
import Derived.Test.YtkehfflpbpdokaaGreatFxk
import Derived.Shelf.SlSortCmp.NoneTotal
namespace Go.Proofs.YtkehfflpbpdokaaGreat
open Go.Shelf Go.Sort
theorem sortWorld_heap {α : Type} [Inhabited α] {enc : α → Value} {w : World} {g m : Nat} {d : Array α} {os : Array Obj} :
  w.heap.size ≤ (sortWorld enc w g 0 m d os).heap.size ∧ ∀ b, b < w.heap.size → b ≠ g → (sortWorld enc w g 0 m d os).heap[b]? = w.heap[b]? := by
 refine ⟨by simp [sortWorld, Sort.grow, Sort.putRow, Sort.mapBlock, Sort.ahead], fun b hb hn => ?_⟩
 simp only [sortWorld, Sort.grow, Sort.putRow, Sort.mapBlock, Sort.ahead]
 rw [Array.getElem?_append_left (by simpa using hb), Array.getElem?_modify, if_neg (Ne.symm hn)]
theorem sortWorld_row {α : Type} [Inhabited α] {enc : α → Value} {w : World} {g n : Nat} {cur : Array Value} {e : TypeId} {d : Array α} {os : Array Obj} (hg : w.heap[g]? = some (.cells cur e (0, 0))) (hd : d.size ≤ cur.size) :
  (sortWorld enc w g 0 n d os).heap[g]? = some (.cells (Sort.putCells enc 0 d cur) e (0, 0)) ∧ (Sort.putCells enc 0 d cur).size = cur.size ∧ (Sort.putCells enc 0 d cur).toList.take d.size = d.toList.map enc := by
 have hlt : g < w.heap.size := obj_lt hg
 refine ⟨?_, by simp [Sort.putCells], ?_⟩
 ·simp only [sortWorld, Sort.grow, Sort.putRow, Sort.mapBlock, Sort.ahead]
  rw [Array.getElem?_append_left (by simpa using hlt), Array.getElem?_modify, if_pos rfl, hg]
  rfl
 ·apply List.ext_getElem?
  intro k
  rw [List.getElem?_take]
  by_cases hk : k < d.size
  ·rw [if_pos hk]
   simp [Sort.putCells]
   rw [Array.getElem?_eq_getElem (by omega)]
   simp [hk]
  ·rw [if_neg hk, List.getElem?_eq_none (by simp; omega)]
theorem heap_append {H H' : Heap} (e : Mod (fun _ => False) H H') : ∃ os : Array Obj, H' = H ++ os := by
 refine ⟨H'.extract H.size H'.size, ?_⟩
 apply Array.ext_getElem?
 intro i
 rw [Array.getElem?_append]
 split
 ·rename_i h; exact e.same i h id
 ·rename_i h
  rw [Array.getElem?_extract]
  have hs := e.size
  by_cases h2 : i < H'.size
  ·rw [if_pos (by omega)]
   congr 1; omega
  ·rw [if_neg (by omega), Array.getElem?_eq_none (by omega)]
theorem cmp_lays {P : Program} {g : Nat} {cb : Array Value} {α : Type} [Inhabited α] {enc : α → Value} {cf : α → α → Int} {blk size : Nat} {w : World}
  (h : ∀ H : Heap, w.heap.size ≤ H.size → (∀ b, b < w.heap.size → b ≠ blk → H[b]? = w.heap[b]?) → ∀ x y, Spec P g (#[enc x, enc y] ++ cb) H fun v H' => v = .int .i64 (cf x y) ∧ Mod (fun _ => False) H H') :
  CmpLays1 P g cb enc cf blk 0 size w := by
 intro m os dk _ x y
 obtain ⟨h1, h2⟩ := sortWorld_heap (enc := enc) (w := w) (g := blk) (m := m) (d := dk) (os := os)
 refine (h _ h1 h2 x y (sortWorld enc w blk 0 m dk os) rfl).mono fun e w' ⟨v, he, ⟨hv, hm⟩, hal⟩ => ?_
 subst hv
 refine ⟨he, w'.drawn - (sortWorld enc w blk 0 m dk os).drawn, ?_⟩
 obtain ⟨os', hos⟩ := heap_append hm
 refine ⟨os', ?_⟩
 have hd := hal.drawn
 have hr := hal.rest
 generalize sortWorld enc w blk 0 m dk os = W at *
 rw [hr, hos]
 unfold Sort.grow World.drewN
 have : W.drawn + (w'.drawn - W.drawn) = w'.drawn := by omega
 rw [this]
theorem sortFunc_spec {P : Program} {ρ : Ren} (L : SlLaysF.n6 P ρ) {α : Type} [Inhabited α] {E : Enc α} {e : α → Value} (hE : ∀ x, E.enc x = [e x]) (hs : E.size = 1) {cf : α → α → Int} (hO : SWO (ltOf cf))
  (hT : ∀ x y, (ltOf cf) x y = false → (ltOf cf) y x = false → x = y) {g : Nat} {cb : Array Value} (eg : ∀ args w, (callFunc g args).run P w = .ok (.enter g args) w) {et : TypeId} {H : Heap} {s : Sl} {l : List α} (h : SlE E et H s l) (hl : l.length < 4611686018427387904)
  (hcmp : ∀ H', Mod (ownB s) H H' → ∀ x y, Spec P g (#[e x, e y] ++ cb) H' fun v H'' => v = .int .i64 (cf x y) ∧ Mod (fun _ => False) H' H'')
  {K : Unit → Heap → Prop} (hK : ∀ H', SlE E et H' s (l.mergeSort fun x y => !(ltOf cf) y x) → Mod (ownB s) H H' → K () H') : SpecT (cTup []) P (ρ.f 6) #[s.v, .func (.func g) #[] cb] H K := by
 intro w hw
 subst hw
 have hall : ∀ l : List α, E.all l = l.map e := by
  intro l
  induction l with
  | nil => rfl
  | cons x l ih =>
    have : E.all (x :: l) = E.enc x ++ E.all l := rfl
    rw [this, hE, ih]; rfl
 rcases id h.2 with ⟨e1, e2⟩ | ⟨b, cap, cur, e1, hb, hg, h4, h5, h6, h7⟩
 ·have hn := h.n (by omega)
  have hl0 : l = [] := List.eq_nil_of_length_eq_zero (by omega)
  have hc := AnyF.slices_SortFunc_none (P := P) (ρ := ρ) { L with } none 0 (.func (.func g) #[] cb) w
  rw [e1]
  refine hc.mono fun e w' ⟨he, hw'⟩ => ?_
  subst hw'
  subst hl0
  exact ⟨_, he, ⟨(), rfl, hK _ (by simpa using h) (.refl _ _)⟩, .refl _⟩
 ·have hn := h.n (by omega)
  have hsa : ∀ k, ownB s k ↔ k = b := by
   intro k
   have ha : s.a = some ⟨b, 0, none⟩ := by cases s; simp only [Sl.v, Value.slice.injEq] at e1; exact e1.1
   constructor
   ·rintro ⟨ad, h1, h2⟩
    rw [ha] at h1; cases h1; exact h2.symm
   ·rintro rfl; exact ⟨_, ha, rfl⟩
  have hH : Sort.Holds e w b 0 l.toArray := by
   intro j hj
   have hj' : j < l.length := by simpa using hj
   have hv : (E.all l)[j]? = some (e l[j]) := by rw [hall]; simp [hj']
   rw [← h7, List.getElem?_take, if_pos (by rw [hs]; omega)] at hv
   refine ⟨?_, ?_⟩
   ·rw [Nat.zero_add]
    have := hCell_of (o := j) hg (by simpa using hv)
    simp [hj']
    exact this
   ·rw [Nat.zero_add]; exact hFrozen_of hg
  have hO1 : OneCell e := fun x => by
   have := E.one x (e x) (by rw [hE]; simp)
   exact this
  have hc := Any.slices_SortFunc_total L e hO1 cf hO g cb b 0 cap l.toArray w eg (cmp_lays fun H' hsz hsame x y => hcmp H' ⟨hsz, fun k hk hn => hsame k hk (fun q => hn ((hsa k).2 q))⟩ x y) hH (obj_lt hg) (by simpa using hl) hT
  rw [e1, hn]
  have hlen : (l.toArray).size = l.length := by simp
  rw [hlen] at hc
  refine hc.mono fun ev w' ⟨he, n, os, hw'⟩ => ?_
  have hm := List.mergeSort_perm l (fun x y => !(ltOf cf) y x)
  have hsz : (l.mergeSort fun x y => !(ltOf cf) y x).length = l.length := hm.length_eq
  have hl2 : l.toArray.toList = l := by simp
  rw [hl2] at hw'
  obtain ⟨q1, q3, q4⟩ := sortWorld_row (enc := e) (n := n) (d := (l.mergeSort fun x y => !(ltOf cf) y x).toArray) (os := os) hg (by rw [h6, hs]; simp [hsz]; omega)
  obtain ⟨w1, w2⟩ := sortWorld_heap (enc := e) (w := w) (g := b) (m := n) (d := (l.mergeSort fun x y => !(ltOf cf) y x).toArray) (os := os)
  subst hw'
  refine ⟨_, he, ⟨(), rfl, hK _ ⟨?_, .inr ⟨b, cap, _, e1, hb, q1, h4, h5, by rw [q3]; exact h6, ?_⟩⟩ ⟨w1, fun k hk hn => w2 k hk (fun q => hn ((hsa k).2 q))⟩⟩, ⟨rfl, Nat.le_add_right _ _⟩⟩
  ·rw [hall, hs]; simp [hsz, hn]
  ·rw [hall, hs, Nat.mul_one, hn]
   have : (l.mergeSort fun x y => !(ltOf cf) y x).toArray.size = l.length := by simp [hsz]
   rw [this] at q4
   rw [q4]
end Go.Proofs.YtkehfflpbpdokaaGreat
