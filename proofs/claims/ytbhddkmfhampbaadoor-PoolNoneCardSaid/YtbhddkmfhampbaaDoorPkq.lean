/-
  What the given statements on the pool share: a step, as an argument.
-/
import Derived.Test.YtbhddkmfhampbaaDoorPkp
import Derived.Test.YtbhddkmfhampbaaDoorFxn
namespace Go.Proofs.YtbhddkmfhampbaaDoor
open Go.ChangeShapes Go.WideShapes Go.ChangeAt Go.RowKit

theorem pstep_types : Tryd.prog.cellTypes Tryd.prog.depth ty_fathomlaw03_Step = some [ty_int, ty_string, ty_int, ty_int, ty_uint8] := by kernel_rfl
theorem pstep_cells : Tryd.prog.cellsOf ty_fathomlaw03_Step = 5 := by kernel_rfl

set_option maxRecDepth 100000 in
/-- An argument: a step. -/
theorem open_pstep {W : World} {r : Reach} {b0 : Nat} {v : Value} (h : Value.okWide Tryd.prog W r b0 ty_fathomlaw03_Step v) :
    ∃ (x : Int) (x1 : ByteArray) (x2 x3 x4 : Int), v = .agg #[.int .i64 x, .string x1, .int .i64 x2, .int .i64 x3, .int .u8 x4] ∧ (0 ≤ x4 ∧ x4 < 256) ∧ (-9223372036854775808 ≤ x2 ∧ x2 ≤ 9223372036854775807) := by
  obtain ⟨cs, rfl, hs, hr⟩ : ∃ cs, v = .agg cs ∧ cs.size = Tryd.prog.cellsOf ty_fathomlaw03_Step ∧ Row.okWide Tryd.prog W r b0 ty_fathomlaw03_Step cs := by
    have hst : ∃ fs, Tryd.prog.underlying ty_fathomlaw03_Step = some (.struct fs) := by
      have hb : (match Tryd.prog.underlying ty_fathomlaw03_Step with | some (.struct _) => true | _ => false) = true := by kernel_rfl
      split at hb
      · rename_i fs q; exact ⟨fs, q⟩
      · cases hb
    obtain ⟨fs, hfs⟩ := hst
    unfold Value.okWide at h
    rw [hfs] at h
    exact h
  rw [pstep_cells] at hs
  have rc : ∀ i, i < 5 → ∃ u v, ([ty_int, ty_string, ty_int, ty_int, ty_uint8] : List TypeId)[i]? = some u ∧ cs[i]? = some v ∧ Cell.okWide Tryd.prog W r b0 u v := by
    intro i hi
    exact row_cell hr pstep_types (by simp) hs hi
  obtain ⟨u0, v0, e0, c0, k0⟩ := rc 0 (by decide)
  obtain ⟨u1, v1, e1, c1, k1⟩ := rc 1 (by decide)
  obtain ⟨u2, v2, e2, c2, k2⟩ := rc 2 (by decide)
  obtain ⟨u3, v3, e3, c3, k3⟩ := rc 3 (by decide)
  obtain ⟨u4, v4, e4, c4, k4⟩ := rc 4 (by decide)
  cases e0; cases e1; cases e2; cases e3; cases e4
  obtain ⟨x, rfl, _⟩ := cell_int (k := .i64) k0 (by kernel_rfl)
  obtain ⟨x1, rfl, _⟩ := cell_str k1 (by kernel_rfl)
  obtain ⟨x2, rfl, h2⟩ := cell_int (k := .i64) k2 (by kernel_rfl)
  obtain ⟨x3, rfl, h3⟩ := cell_int (k := .i64) k3 (by kernel_rfl)
  obtain ⟨x4, rfl, h4⟩ := cell_int (k := .u8) k4 (by kernel_rfl)
  refine ⟨x, x1, x2, x3, x4, ?_, has_u8 h4, has_i64 h2⟩
  congr 1
  apply Array.ext_getElem?
  intro i
  rcases Nat.lt_or_ge i 5 with hi | hi
  · match i, hi with
    | 0, _ => exact c0
    | 1, _ => exact c1
    | 2, _ => exact c2
    | 3, _ => exact c3
    | 4, _ => exact c4
  · rw [Array.getElem?_eq_none (by omega), Array.getElem?_eq_none (by simpa using hi)]

end Go.Proofs.YtbhddkmfhampbaaDoor
