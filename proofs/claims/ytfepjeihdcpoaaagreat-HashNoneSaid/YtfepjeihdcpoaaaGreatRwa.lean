/-
  The kit's small functions and the reference's rows: what each call comes to.
-/
import Derived.Test.YtfepjeihdcpoaaaGreatVc
import Derived.Test.YtfepjeihdcpoaaaGreatFxg
namespace Go.Proofs.YtfepjeihdcpoaaaGreat

theorem SameRow_ok {a b : Sl} {la lb : List Int} {H : Heap} {K : Bool → Heap → Prop} (ha : Ints .u64 H a la) (hb : Ints .u64 H b lb) (hlen : la.length < 1099511627776) (hK : K (decide (la = lb)) H) : fathomkit_SameRow.sp a b H K := by
  refine fathomkit_SameRow.of ?_
  unfold fathomkit_SameRow.vc
  have la1 := ha.len
  have lb1 := hb.len
  refine br_mk (fun h => ?_) (fun h => ?_)
  · have h1 : la ≠ lb := by intro e; subst e; simp [la1, lb1] at h
    simpa [h1] using hK
  · have h' : (a.n : Int) = (b.n : Int) := by simpa using h
    have hl : la.length = lb.length := by omega
    refine ⟨Nat, fun k i H' => i = (k : Int) ∧ k ≤ la.length ∧ H' = H ∧ la.take k = lb.take k, fun k => la.length - k, ⟨0, rfl, Nat.zero_le _, rfl, by simp⟩, ?_⟩
    rintro k i H' ⟨rfl, hk, rfl, ht⟩
    refine br_mk (fun h1 => ?_) (fun h1 => ?_)
    · have h1' : (k : Int) < (a.n : Int) := by simpa using h1
      have hlt : k < la.length := by omega
      refine ha.ld (by omega) (by omega) fun ad1 e1 => ?_
      refine hb.ld (by omega) (by omega) fun ad2 e2 => ?_
      simp only [Int.toNat_natCast]
      refine br_mk (fun h2 => ?_) (fun h2 => ?_)
      · have h3 : la ≠ lb := by intro e; subst e; simp at h2
        simpa [h3] using hK
      · refine ⟨k + 1, ⟨by rw [wrap64 (by omega) (by omega)]; omega, by omega, by trivial, ?_⟩, by omega⟩
        rw [List.take_succ_eq_append_getElem hlt, List.take_succ_eq_append_getElem (by omega : k < lb.length), ht]
        have : la[k]'hlt = lb[k]'(by omega) := by simpa [List.getD, List.getElem?_eq_getElem hlt, List.getElem?_eq_getElem (by omega : k < lb.length)] using h2
        rw [this]
    · have h1' : ¬ ((k : Int) < (a.n : Int)) := by simpa using h1
      have hge : k = la.length := by omega
      subst hge
      have h2 : la = lb := by rw [List.take_of_length_le (Nat.le_refl _), List.take_of_length_le (by omega)] at ht; exact ht
      simpa [h2] using hK

end Go.Proofs.YtfepjeihdcpoaaaGreat
