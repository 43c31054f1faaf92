/-
  Ground, thirteenth text: cells of arguments.
-/
import Derived.Test.YtjjfngnokbboeaaDoorFxh
namespace Go.Proofs.YtjjfngnokbboeaaDoor
open Go.RowKit Go.WideShapes Go.ChangeShapes Go.WideElems

theorem has_u8 {n : Int} (h : IntKind.u8.has n) : 0 ≤ n ∧ n < 256 := by
  have h1 : IntKind.u8.min ≤ n ∧ n ≤ IntKind.u8.max := h
  have h2 : IntKind.u8.min = 0 := rfl
  have h3 : IntKind.u8.max = 255 := rfl
  omega
theorem has_u64 {n : Int} (h : IntKind.u64.has n) : 0 ≤ n ∧ n < 18446744073709551616 := by
  have h1 : IntKind.u64.min ≤ n ∧ n ≤ IntKind.u64.max := h
  have h2 : IntKind.u64.min = 0 := rfl
  have h3 : IntKind.u64.max = 18446744073709551615 := rfl
  omega
theorem has_i64 {n : Int} (h : IntKind.i64.has n) : -9223372036854775808 ≤ n ∧ n ≤ 9223372036854775807 := by
  have h1 : IntKind.i64.min ≤ n ∧ n ≤ IntKind.i64.max := h
  have h2 : IntKind.i64.min = -9223372036854775808 := rfl
  have h3 : IntKind.i64.max = 9223372036854775807 := rfl
  omega

section
variable {P : Program} {w : World} {r : Reach} {base : Nat} {t : TypeId} {v : Value}

theorem cell_int {k : IntKind} (h : Cell.okWide P w r base t v) (ht : P.underlying t = some (.int k)) : ∃ n, v = .int k n ∧ k.has n := by
  unfold Cell.okWide Cell.ok at h
  rw [ht] at h
  cases v <;> simp at h
  obtain ⟨rfl, h⟩ := h
  exact ⟨_, rfl, h⟩
theorem cell_str (h : Cell.okWide P w r base t v) (ht : P.underlying t = some .string) : ∃ s, v = .string s ∧ (s.size : Int) ≤ 9223372036854775807 := by
  unfold Cell.okWide Cell.ok at h
  rw [ht] at h
  cases v <;> simp at h
  exact ⟨_, rfl, h⟩
theorem cell_bool (h : Cell.okWide P w r base t v) (ht : P.underlying t = some .bool) : ∃ b, v = .bool b := by
  unfold Cell.okWide Cell.ok at h
  rw [ht] at h
  cases v <;> simp at h
  exact ⟨_, rfl⟩
theorem row_cell {cs : Array Value} {ts : List TypeId} {n : Nat} (h : Row.okWide P w r base t cs) (hts : P.cellTypes P.depth t = some ts) (hn : ts.length = n) (hc : cs.size = n) {i : Nat} (hi : i < n) : ∃ u v, ts[i]? = some u ∧ cs[i]? = some v ∧ Cell.okWide P w r base u v := by
  obtain ⟨ts', h1, _, h3⟩ := h
  rw [hts] at h1; cases h1
  have hv : cs[i]? = some cs[i] := Array.getElem?_eq_getElem (by omega)
  obtain ⟨u, h4, h5⟩ := h3 i _ hv
  rw [Nat.mod_eq_of_lt (by omega)] at h4
  exact ⟨u, _, h4, hv, h5⟩
theorem wide_int {k : IntKind} (h : Value.okWide P w r base t v) (ht : P.underlying t = some (.int k)) : ∃ n, v = .int k n ∧ k.has n := by
  unfold Value.okWide at h
  rw [ht] at h
  exact cell_int h ht

end
end Go.Proofs.YtjjfngnokbboeaaDoor
