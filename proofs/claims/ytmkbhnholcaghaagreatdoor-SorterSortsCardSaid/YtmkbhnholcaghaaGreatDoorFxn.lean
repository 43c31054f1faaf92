/-
 Ground, thirteenth text: cells of arguments.
-/
import Derived.Test.YtmkbhnholcaghaaGreatDoorFxh
namespace Go.Proofs.YtmkbhnholcaghaaGreatDoor
open Go.RowKit Go.WideShapes Go.ChangeShapes Go.WideElems
section
variable {P : Program} {w : World} {r : Reach} {base : Nat} {t : TypeId} {v : Value}
theorem cell_int {k : IntKind} (h : Cell.okWide P w r base t v) (ht : P.underlying t = some (.int k)) : ∃ n, v = .int k n ∧ k.has n := by
 unfold Cell.okWide Cell.ok at h
 rw [ht] at h
 cases v <;> simp at h
 obtain ⟨rfl, h⟩ := h
 exact ⟨_, rfl, h⟩
theorem wide_int {k : IntKind} (h : Value.okWide P w r base t v) (ht : P.underlying t = some (.int k)) : ∃ n, v = .int k n ∧ k.has n := by
 unfold Value.okWide at h
 rw [ht] at h
 exact cell_int h ht
end
end Go.Proofs.YtmkbhnholcaghaaGreatDoor
