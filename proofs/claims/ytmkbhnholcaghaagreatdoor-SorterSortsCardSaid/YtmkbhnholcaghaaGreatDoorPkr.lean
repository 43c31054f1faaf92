/-
 What the given statements on relations share: the tables as they are laid.
-/
import Derived.Test.YtmkbhnholcaghaaGreatDoorRows
import Derived.Test.YtmkbhnholcaghaaGreatDoorCards
import Derived.Test.YtmkbhnholcaghaaGreatDoorTie
import Derived.Test.YtmkbhnholcaghaaGreatDoorPgb
import Derived.Test.YtmkbhnholcaghaaGreatDoorFxh
import Derived.LaidMore
import Derived.OpenShut
import Derived.MakeChecks
import Derived.LaidHandle
import Derived.LaidLaws
import Derived.SevenTiedAt
import Derived.Stop.Joined
namespace Go.Proofs.YtmkbhnholcaghaaGreatDoor
open Go.ChangeShapes Go.WideShapes Go.ChangeAt Go.RowKit
theorem pprog_own : ownKnob Tryz.prog.godebug = none := by kernel_rfl
theorem pprog_laidOut : laidOutB Tryz.prog = true := by kernel_rfl
def laidS : List (String × DataW Unit) := [("math/bits.deBruijn32tab", Rows.laid_math_bits_deBruijn32tab), ("math/bits.deBruijn64tab", Rows.laid_math_bits_deBruijn64tab), ("internal/strconv.uint64pow10", Rows.laid_internal_strconv_uint64pow10), ("fathom/page.steps", Rows.laid_fathom_page_steps)]
def litS : List (DataW Unit) := stepsL.map fun b => .lit (.int .u32 (b.toNat : Int))
theorem litS_eq : (Rows.laid_fathom_page_steps : DataW Unit) = .agg litS := by rfl
theorem gl_of_laid {W : World} (h : laidMetH Tryz.prog laidS W) : Gl W.heap := by
 rw [MakeChecks.laidMetH_plain _ _ _ (by kernel_rfl)] at h
 obtain ⟨ps, ⟨_, _, _, _, _, _, _, _, _, _, ⟨_, _, _, _, _, _, _, _, _, _, ⟨_, _, _, _, _, _, _, _, _, _, ⟨g0, t0, cs0, f0, p0, q0, hg0, ht0, hv0, hd0, _, _⟩, _⟩, _⟩, _⟩, _, _⟩ := h
 obtain rfl := Option.some.inj ((show Tryz.prog.globalNamed "fathom/page.steps" = some gSteps by kernel_rfl).symm.trans hg0)
 obtain rfl := Option.some.inj ((show (Tryz.prog.globals[gSteps]?).map (·.type) = some 296 by kernel_rfl).symm.trans ht0)
 obtain ⟨xs, m, _, hx, hlen, hn, hel⟩ := DataW.trod_array (n := 16) (e := 256) (by kernel_rfl) hd0
 have hlit : litS = xs.map (·.1) := by
  have h1 : (Rows.laid_fathom_page_steps : DataW Unit) = .agg (xs.map (·.1)) := (Prod.mk.inj hx).1
  rw [litS_eq] at h1
  exact DataW.agg.inj h1
 intro i hi
 have hi' := hel i hi
 rw [show Tryz.prog.cellsOf 256 = 1 by kernel_rfl, Nat.mul_one] at hi'
 have hil : i < xs.length := by omega
 rw [List.getElem?_eq_getElem hil] at hi'
 obtain ⟨k, e1, e2, _⟩ := DataW.trod_int (k := .u32) (by kernel_rfl) hi'
 have hk : litS[i]? = some (.lit (.int .u32 k)) := by rw [hlit, List.getElem?_map, List.getElem?_eq_getElem hil, e2]; rfl
 unfold litS at hk
 rw [List.getElem?_map] at hk
 obtain ⟨b, hb, eb⟩ := Option.map_eq_some_iff.1 hk
 have ek : k = (b.toNat : Int) := by
  have := eb
  simp only [DataW.lit.injEq, Lit.int.injEq, true_and] at this
  exact this.symm
 have hgd : stepsL.getD i 0#32 = b := by simp [List.getD, hb]
 rw [hgd, ← ek]
 have hc := World.var?_cell hg0 hv0 i
 have hcs : cs0[i]? = some (.int .u32 k) := by
  have h2 : ((cs0.toList.drop i).take 1)[0]? = some (Value.int .u32 k) := by rw [e1]; rfl
  rw [List.getElem?_take, if_pos (by decide), List.getElem?_drop, Nat.add_zero] at h2
  simpa using h2
 rw [hcs] at hc
 exact hc
theorem door_met (os : Os) (args : Array Value) : laidMetH Tryz.prog laidS ((World.doorLaid Tryz.prog 400 os).forCall (fun _ _ => 0) ⟨#[], args, []⟩).memory :=
 laidMetH_of_parts3 (fuel := 8) (laidMet_of_run' 8 (by kernel_rfl) (by kernel_rfl)) (by kernel_rfl) (by kernel_rfl)
end Go.Proofs.YtmkbhnholcaghaaGreatDoor
