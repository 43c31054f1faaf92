/-
  RowBack: for every input the law returns true, and its arguments read as before. No condition.
-/
import Derived.Test.YtndnjggcpdkbiaaRwk
namespace Go.Proofs.Ytndnjggcpdkbiaa
open Go.ChangeShapes Go.WideShapes Go.ChangeAt Go.RowKit

set_option maxRecDepth 100000 in
theorem rowBack_lifted (os : Os) (started : os.Started) (H : Type) (enc : TypeId × Value → H) :
    ReturnsInHanded {} Try.checked os 6 .any (Rows.rowBackSpec.pre6 enc Try.prog Try.f6 Rows.rowBackRow.domain false) (Rows.rowBackSpec.post enc Try.prog Try.f6 false true false false) := by
  refine returnsInHanded_of_change (C := Try.checked) row_own started (by kernel_rfl) Try.func6
    (ChangeSpec.witness6 (enc := enc) (C := Try.checked) false ⟨#[], #[.slice none 0 0, .int .i64 0], []⟩ 8 (by kernel_rfl) (by kernel_rfl) (by kernel_rfl) (by kernel_rfl)) ?_
  intro W base args ds gs before hval0 hW hcnd _
  have hval : ∀ (j : Nat) t v, Try.f6.params[j]? = some t → args[j]? = some v → Value.okWide Try.prog W .any base t v := hval0
  have hW' := hW
  obtain ⟨p, q, hA0, hV, rfl, hfz, hnd⟩ := hW
  have hA : DataW.TrodAll enc Try.prog W 0 (fun _ => true) true Try.f6.params.toList args.toList ds p := hA0
  rw [Try.params6] at hA hval
  obtain ⟨v0, v1, d0, d1, p0, p1, rfl, rfl, rfl, h0, h1⟩ := trodAll_two hA
  obtain ⟨rfl, rfl⟩ := trodVars_none hV
  obtain ⟨a, la, rfl, na, ca, ra⟩ := open_sl_sl_ints (k := .u64) (e := ty_sl_uint64) (e2 := ty_uint64) (by kernel_rfl) (by kernel_rfl) (by kernel_rfl) (by kernel_rfl) (by kernel_rfl) (hval 0 ty_sl_sl_uint64 v0 rfl rfl) h0
  obtain ⟨b, rfl, rfl, rfl, wb⟩ := open_int (k := .i64) (t := ty_int) (by kernel_rfl) (hval 1 ty_int v1 rfl rfl) h1
  have hspec := RowBack_ok (H := W.heap) (K := fun b H' => b = true ∧ Ext W.heap H') na ra (i64_fits wb) (fun H' e => ⟨rfl, e⟩)
  refine (hspec W rfl).mono fun e W' ⟨v, he, ⟨x, hx, hb, hext⟩, hal⟩ => ?_
  subst he; subst hx; subst hb
  exact ⟨_, rfl, law_post row_laidOut (by decide +kernel) rfl (by kernel_rfl) rfl rfl rfl rfl hW' hext hal⟩

theorem rowBack_holds : Rows.RowBackSaid :=
  OpenClaim.holds_of_wide 6 Try.f6 rfl rfl rfl rfl rfl rfl rfl ⟨rfl, rfl, rfl, rfl, rfl⟩ rfl rfl rfl rfl rfl (by kernel_rfl) Try.func6 (by kernel_rfl)
    (of_decide_eq_true (by kernel_rfl)) (by unfold Func.isWrapper; first | (rw [if_pos (by decide +kernel)]; kernel_rfl) | (rw [if_neg (by decide +kernel)]; exact ⟨rfl, rfl⟩))
    (fun os started H enc _ => rowBack_lifted os started H enc)
#print axioms rowBack_holds
end Go.Proofs.Ytndnjggcpdkbiaa
