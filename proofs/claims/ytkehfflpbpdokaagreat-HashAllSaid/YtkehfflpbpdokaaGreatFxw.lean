/-
 Ground: slices.Insert, at any type of elements of one cell, in memory of one's own.
-/
import Derived.Test.YtkehfflpbpdokaaGreatFxs
import Derived.Lib.Overlaps
namespace Go.Proofs.YtkehfflpbpdokaaGreat
theorem slA_some {g o c i : Nat} (h : c ≠ i) : slA (some ⟨g, o, none⟩) c i 1 = some ⟨g, o + i, none⟩ := by
 unfold slA
 rw [if_neg (by simpa using h)]
 simp [add_lit]
end Go.Proofs.YtkehfflpbpdokaaGreat
