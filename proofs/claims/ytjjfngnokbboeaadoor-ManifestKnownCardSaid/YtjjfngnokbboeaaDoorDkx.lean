/-
  The library's sorting of texts, said of the heap.
-/
import Derived.Test.YtjjfngnokbboeaaDoorDks
namespace Go.Proofs.YtjjfngnokbboeaaDoor

theorem SortTexts_ok {s : Sl} {l : List (List UInt8)} {H : Heap} {K : Unit → Heap → Prop} (h : SlE EN ty_string H s l) (hl : l.length < 4611686018427387904)
    (hK : ∀ H', SlE EN ty_string H' s (l.mergeSort fun x y => decide (x ≤ y)) → Mod (ownB s) H H' → K () H') : slices_Sort_sl_string_string.sp s H K := by
  intro w hw
  subst hw
  rcases id h.2 with ⟨e1, e2⟩ | ⟨g, cap, cur, e1, hb, hg, h4, h5, h6, h7⟩
  · have hn := h.n (by decide)
    have hl0 : l = [] := List.eq_nil_of_length_eq_zero (by omega)
    have hc := AnyM.slices_Sort_string_none sortStr none 0 w
    rw [e1]
    refine hc.mono fun e w' ⟨he, hw'⟩ => ?_
    subst hw'
    subst hl0
    exact ⟨_, he, ⟨(), rfl, hK _ (by simpa using h) (.refl _ _)⟩, .refl _⟩
  · have hn := h.n (by decide)
    have hall := EN_all l
    have hs1 : EN.size = 1 := rfl
    have henc : ∀ x : List UInt8, encStr x = .string ⟨x.toArray⟩ := fun _ => rfl
    have hH : Sort.Holds encStr w g 0 l.toArray := by
      intro j hj
      have hj' : j < l.length := by simpa using hj
      have hv : (EN.all l)[j]? = some (.string ⟨l[j].toArray⟩) := by rw [hall]; simp [hj']
      rw [← h7, List.getElem?_take, if_pos (by rw [hs1]; omega)] at hv
      refine ⟨?_, ?_⟩
      · rw [Nat.zero_add]
        have := hCell_of (o := j) hg (by simpa using hv)
        simp [hj', henc]
        exact this
      · rw [Nat.zero_add]; exact hFrozen_of hg
    have hc := AnyM.slices_Sort_string sortStr g 0 cap l w hH (obj_lt hg) hl
    rw [e1, hn]
    refine hc.mono fun e w' ⟨he, n, os, hw'⟩ => ?_
    have hm := List.mergeSort_perm l (fun x y => decide (x ≤ y))
    have hsz : (l.mergeSort fun x y => decide (x ≤ y)).length = l.length := hm.length_eq
    obtain ⟨q1, q2, q3, q4⟩ := sorted_heap (enc := encStr) (n := n) (d := (l.mergeSort fun x y => decide (x ≤ y)).toArray) (os := os) hg (by rw [h6, hs1]; simp [hsz]; omega)
    subst hw'
    refine ⟨_, he, ⟨(), rfl, hK _ ⟨?_, .inr ⟨g, cap, _, e1, hb, q1, h4, h5, by rw [q3]; exact h6, ?_⟩⟩ (q2.mono fun b _ e => ⟨⟨g, 0, none⟩, ?_, e.symm⟩)⟩, (.of_le rfl (Nat.le_add_right _ _))⟩
    · rw [EN_all, hs1]; simp [hsz, hn]
    · rw [EN_all, hs1, Nat.mul_one, hn]
      have : (l.mergeSort fun x y => decide (x ≤ y)).toArray.size = l.length := by simp [hsz]
      rw [this] at q4
      rw [q4]
    · cases s; simp only [Sl.v, Value.slice.injEq] at e1; exact e1.1

end Go.Proofs.YtjjfngnokbboeaaDoor
