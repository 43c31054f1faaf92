/-
  What the given statements on the disk share.
-/
import Derived.Test.YtnmaojkkfbajcaaGreatRows
import Derived.Test.YtnmaojkkfbajcaaGreatVc
import Derived.Test.YtnmaojkkfbajcaaGreatFxn
namespace Go.Proofs.YtnmaojkkfbajcaaGreat
open Go.ChangeShapes Go.WideShapes Go.ChangeAt Go.RowKit

theorem prog_own : ownKnob Tryz.prog.godebug = none := by kernel_rfl
theorem prog_laidOut : laidOutB Tryz.prog = true := by kernel_rfl

theorem step_types : Tryz.prog.cellTypes Tryz.prog.depth ty_fathomlaw01_Step = some [ty_int, ty_string, ty_string, ty_int, ty_uint8, 4, 22] := by kernel_rfl
theorem step_cells : Tryz.prog.cellsOf ty_fathomlaw01_Step = 7 := by kernel_rfl

set_option maxRecDepth 100000 in
/-- An argument: a step. -/
theorem open_step {W : World} {r : Reach} {b0 : Nat} {v : Value} (h : Value.okWide Tryz.prog W r b0 ty_fathomlaw01_Step v) :
    ∃ (x : Int) (x1 x2 : ByteArray) (x3 x4 : Int) (x5 : Bool) (x6 : Int), v = .agg #[.int .i64 x, .string x1, .string x2, .int .i64 x3, .int .u8 x4, .bool x5, .int .u64 x6] ∧ (0 ≤ x4 ∧ x4 < 256) ∧ (-9223372036854775808 ≤ x3 ∧ x3 ≤ 9223372036854775807) := by
  obtain ⟨cs, rfl, hs, hr⟩ : ∃ cs, v = .agg cs ∧ cs.size = Tryz.prog.cellsOf ty_fathomlaw01_Step ∧ Row.okWide Tryz.prog W r b0 ty_fathomlaw01_Step cs := by
    have hst : ∃ fs, Tryz.prog.underlying ty_fathomlaw01_Step = some (.struct fs) := by
      have hb : (match Tryz.prog.underlying ty_fathomlaw01_Step with | some (.struct _) => true | _ => false) = true := by kernel_rfl
      split at hb
      · rename_i fs q; exact ⟨fs, q⟩
      · cases hb
    obtain ⟨fs, hfs⟩ := hst
    unfold Value.okWide at h
    rw [hfs] at h
    exact h
  rw [step_cells] at hs
  have rc : ∀ i, i < 7 → ∃ u v, ([ty_int, ty_string, ty_string, ty_int, ty_uint8, 4, 22] : List TypeId)[i]? = some u ∧ cs[i]? = some v ∧ Cell.okWide Tryz.prog W r b0 u v := by
    intro i hi
    exact row_cell hr step_types (by simp) hs hi
  obtain ⟨u0, v0, e0, c0, k0⟩ := rc 0 (by decide)
  obtain ⟨u1, v1, e1, c1, k1⟩ := rc 1 (by decide)
  obtain ⟨u2, v2, e2, c2, k2⟩ := rc 2 (by decide)
  obtain ⟨u3, v3, e3, c3, k3⟩ := rc 3 (by decide)
  obtain ⟨u4, v4, e4, c4, k4⟩ := rc 4 (by decide)
  obtain ⟨u5, v5, e5, c5, k5⟩ := rc 5 (by decide)
  obtain ⟨u6, v6, e6, c6, k6⟩ := rc 6 (by decide)
  cases e0; cases e1; cases e2; cases e3; cases e4; cases e5; cases e6
  obtain ⟨x, rfl, _⟩ := cell_int (k := .i64) k0 (by kernel_rfl)
  obtain ⟨x1, rfl, _⟩ := cell_str k1 (by kernel_rfl)
  obtain ⟨x2, rfl, _⟩ := cell_str k2 (by kernel_rfl)
  obtain ⟨x3, rfl, h3⟩ := cell_int (k := .i64) k3 (by kernel_rfl)
  obtain ⟨x4, rfl, h4⟩ := cell_int (k := .u8) k4 (by kernel_rfl)
  obtain ⟨x5, rfl⟩ := cell_bool k5 (by kernel_rfl)
  obtain ⟨x6, rfl, _⟩ := cell_int (k := .u64) k6 (by kernel_rfl)
  refine ⟨x, x1, x2, x3, x4, x5, x6, ?_, has_u8 h4, has_i64 h3⟩
  congr 1
  apply Array.ext_getElem?
  intro i
  rcases Nat.lt_or_ge i 7 with hi | hi
  · match i, hi with
    | 0, _ => exact c0
    | 1, _ => exact c1
    | 2, _ => exact c2
    | 3, _ => exact c3
    | 4, _ => exact c4
    | 5, _ => exact c5
    | 6, _ => exact c6
  · rw [Array.getElem?_eq_none (by omega), Array.getElem?_eq_none (by simpa using hi)]

end Go.Proofs.YtnmaojkkfbajcaaGreat
