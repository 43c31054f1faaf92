/-
  Ground: an argument that is a slice of slices: no slice is larger than memory.
-/
import Derived.Test.YtmdiinakfpgdjaaDoorFxh
import Derived.SizedLaws
namespace Go.Proofs.YtmdiinakfpgdjaaDoor
open Go.ChangeShapes Go.WideShapes Go.ChangeAt Go.RowKit

theorem weights_all {H : Type} {P : Program} {e : TypeId} {d : DataW H} {n : Nat} (hn : n ∈ d.weights P e) : ∀ {l : List (DataW H)}, d ∈ l → n ∈ DataW.weightsAll P e l
  | [], h => by cases h
  | a :: l, h => by
    unfold DataW.weightsAll
    rw [List.mem_append]
    rcases List.mem_cons.1 h with rfl | h
    · exact .inl hn
    · exact .inr (weights_all hn h)
section
variable {H : Type} {P : Program} {enc : TypeId × Value → H}
theorem open_sl_sl_sized {r : Reach} {b0 : Nat} {W : World} {t e e2 : TypeId} {k : IntKind} {v : Value} {d : DataW H} {ps : List MemPlace} (ht : P.underlying t = some (.slice e)) (hte : P.underlying e = some (.slice e2)) (he : P.underlying e2 = some (.int k)) (hc1 : P.cellsOf e = 1) (hc : P.cellsOf e2 = 1)
    (hval : Value.okWide P W r b0 t v) (h : DataW.Trod enc P W 0 (fun _ => true) true t v d ps) (hsz : ∀ n ∈ d.weights P t, n ≤ reachBytes) :
    ∃ (s : Sl) (ls : List (List Int)), v = Sl.v s ∧ s.n = ls.length ∧ s.n ≤ s.c ∧ ∀ i (hi : i < ls.length), ∃ ad rr, s.a = some ad ∧ hCell W.heap (ad.add i) = some (Sl.v rr) ∧ Ints k W.heap rr ls[i] ∧ rr.n ≤ rr.c ∧ (∀ n ∈ ls[i], (Lit.int k n).wf = true) ∧ ls[i].length * P.bytesOf e2 ≤ reachBytes := by
  obtain ⟨fuel, hf⟩ := h
  rcases DataW.trod_slice ht hf with ⟨hcs, _⟩ | ⟨a, len, cap, elems, rest, n, _, hcs, hxd, _, hl, hm, hlen, hel, _, _⟩
  · exact ⟨Sl.mk none 0 0, [], one_cell ht hval hcs, rfl, Nat.le_refl _, fun i hi => by simp at hi⟩
  · have hd : d = .slice (elems.map (·.1)) (rest.map (·.1)) := congrArg Prod.fst hxd
    have each : ∀ i, i < len → ∃ zs : List Int, ∃ (rr : Sl), hCell W.heap (a.add i) = some (Sl.v rr) ∧ Ints k W.heap rr zs ∧ rr.n ≤ rr.c ∧ (∀ m ∈ zs, (Lit.int k m).wf = true) ∧ zs.length * P.bytesOf e2 ≤ reachBytes := by
      intro i hi
      have h1 := hel i hi
      rw [hc1, Nat.mul_one, List.getElem?_eq_getElem (by omega), Option.bind_eq_some_iff] at h1
      obtain ⟨cs', hcs', hy⟩ := h1
      rcases open_ints hte he hc hy with ⟨hcs2, hx⟩ | ⟨a2, len2, cap2, zs, hcs2, _, hl2, hm2, hz, hx, hcell, hwz⟩
      · subst hcs2
        exact ⟨[], Sl.mk none 0 0, cell_of_cells?_one hcs', ⟨rfl, Reads.nil _ _⟩, Nat.le_refl _, by simp, by simp⟩
      · subst hcs2
        have hlen2 : len2 ≤ zs.length := by rw [hz]; simp; omega
        refine ⟨zs.take len2, Sl.mk (some a2) len2 cap2, cell_of_cells?_one hcs', ⟨by simp; omega, ?_⟩, hl2, fun n hn => hwz n (List.mem_of_mem_take hn), ?_⟩
        · intro j v hv
          refine ⟨a2, rfl, ?_⟩
          have hj : j < len2 := by have := (List.getElem?_eq_some_iff.1 hv).1; simp at this; omega
          have h1 := hcell j (by omega)
          rw [List.getElem?_map, List.getElem?_take, if_pos hj] at hv
          have h2 : zs[j]? = some (zs.getD j 0) := by simp [List.getD, List.getElem?_eq_getElem (show j < zs.length by omega)]
          rw [h2] at hv
          simp only [Option.map_some, Option.some.injEq] at hv
          rw [← hv]
          exact h1
        · have hmem : elems[i].1 ∈ elems.map (·.1) := List.mem_map_of_mem (List.getElem_mem _)
          rw [hx] at hmem
          have hw : ((lits (H := H) k (zs.take len2)).length + (lits (H := H) k (zs.drop len2)).length) * P.bytesOf e2 ∈ DataW.weights P e (DataW.slice (lits (H := H) k (zs.take len2)) (lits k (zs.drop len2))) := by
            simp [DataW.weights, hte]
          have hall := hsz _ (by
            rw [hd]
            unfold DataW.weights
            rw [ht]
            simp only
            exact List.mem_cons_of_mem _ (List.mem_append.2 (.inl (weights_all hw hmem))))
          refine Nat.le_trans (Nat.mul_le_mul_right _ ?_) hall
          simp [lits]
    have := collect (Q := fun i zs => ∃ rr, hCell W.heap (a.add i) = some (Sl.v rr) ∧ Ints k W.heap rr zs ∧ rr.n ≤ rr.c ∧ (∀ n ∈ zs, (Lit.int k n).wf = true) ∧ zs.length * P.bytesOf e2 ≤ reachBytes) len each
    obtain ⟨ls, h1, h2⟩ := this
    refine ⟨Sl.mk (some a) len cap, ls, one_cell ht hval hcs, h1.symm, hl, fun i hi => ?_⟩
    obtain ⟨rr, q⟩ := h2 i hi
    exact ⟨a, rr, rfl, q⟩
end
end Go.Proofs.YtmdiinakfpgdjaaDoor
