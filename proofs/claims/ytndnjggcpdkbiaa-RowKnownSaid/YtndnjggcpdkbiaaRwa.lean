/-
  The kit's small functions and the reference's rows: what each call comes to.
-/
import Derived.Test.YtndnjggcpdkbiaaVc
import Derived.Test.YtndnjggcpdkbiaaFxg
namespace Go.Proofs.Ytndnjggcpdkbiaa

theorem SameRow_ok {a b : Sl} {la lb : List Int} {H : Heap} {K : Bool → Heap → Prop} (ha : Ints .u64 H a la) (hb : Ints .u64 H b lb) (hlen : la.length < 1099511627776) (hK : K (decide (la = lb)) H) : fathomkit_SameRow.sp a b H K := by
  refine fathomkit_SameRow.of ?_
  unfold fathomkit_SameRow.vc
  have la1 := ha.len
  have lb1 := hb.len
  refine br_mk (fun h => ?_) (fun h => ?_)
  · have h1 : la ≠ lb := by intro e; subst e; simp [la1, lb1] at h
    simpa [h1] using hK
  · have h' : (a.n : Int) = (b.n : Int) := by simpa using h
    have hl : la.length = lb.length := by omega
    refine ⟨Nat, fun k i H' => i = (k : Int) ∧ k ≤ la.length ∧ H' = H ∧ la.take k = lb.take k, fun k => la.length - k, ⟨0, rfl, Nat.zero_le _, rfl, by simp⟩, ?_⟩
    rintro k i H' ⟨rfl, hk, rfl, ht⟩
    refine br_mk (fun h1 => ?_) (fun h1 => ?_)
    · have h1' : (k : Int) < (a.n : Int) := by simpa using h1
      have hlt : k < la.length := by omega
      refine ha.ld (by omega) (by omega) fun ad1 e1 => ?_
      refine hb.ld (by omega) (by omega) fun ad2 e2 => ?_
      simp only [Int.toNat_natCast]
      refine br_mk (fun h2 => ?_) (fun h2 => ?_)
      · have h3 : la ≠ lb := by intro e; subst e; simp at h2
        simpa [h3] using hK
      · refine ⟨k + 1, ⟨by rw [wrap64 (by omega) (by omega)]; omega, by omega, by trivial, ?_⟩, by omega⟩
        rw [List.take_succ_eq_append_getElem hlt, List.take_succ_eq_append_getElem (by omega : k < lb.length), ht]
        have : la[k]'hlt = lb[k]'(by omega) := by simpa [List.getD, List.getElem?_eq_getElem hlt, List.getElem?_eq_getElem (by omega : k < lb.length)] using h2
        rw [this]
    · have h1' : ¬ ((k : Int) < (a.n : Int)) := by simpa using h1
      have hge : k = la.length := by omega
      subst hge
      have h2 : la = lb := by rw [List.take_of_length_le (Nat.le_refl _), List.take_of_length_le (by omega)] at ht; exact ht
      simpa [h2] using hK

theorem Pick_ok {i n : Int} {H : Heap} {K : Int → Heap → Prop} (h2 : n ≤ 9223372036854775807)
    (hK : K (if n < 1 then 0 else i.emod n) H) : fathomkit_Pick.sp i n H K := by
  refine fathomkit_Pick.of ?_
  unfold fathomkit_Pick.vc
  refine br_mk (fun h => ?_) (fun h => ?_)
  · have : n < 1 := by simpa using h
    simpa [this] using hK
  · have hn : 1 ≤ n := by simpa using h
    refine ⟨by omega, ?_⟩
    rw [if_neg (by omega)] at hK
    have hm := Int.tmod_def i n
    refine br_mk (fun h => ?_) (fun h => ?_)
    · have hneg : i.tmod n < 0 := by simpa using h
      have e : i.emod n = i.tmod n + n := by
        rw [Int.tmod_eq_emod] at hneg ⊢
        split at hneg
        · have := Int.emod_nonneg i (show n ≠ 0 by omega)
          omega
        · rename_i h3
          rw [if_neg h3]
          have : (n.natAbs : Int) = n := by omega
          have e2 : i % n = i.emod n := rfl
          omega
      have hb1 : -n < i.tmod n := by
        rw [Int.tmod_eq_emod]
        have := Int.emod_nonneg i (show n ≠ 0 by omega)
        split <;> omega
      rw [wrap64 (by omega) (by omega), ← e]
      exact hK
    · have hpos : 0 ≤ i.tmod n := by simpa using h
      have e : i.emod n = i.tmod n := by
        rw [Int.tmod_eq_emod] at hpos ⊢
        split
        · simp; rfl
        · rename_i h3
          rw [if_neg h3] at hpos
          have := Int.emod_lt_of_pos i (show 0 < n by omega)
          have : (n.natAbs : Int) = n := by omega
          omega
      rw [← e]; exact hK

end Go.Proofs.Ytndnjggcpdkbiaa
