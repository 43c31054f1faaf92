/-
  RowBytes: for every input the law returns true, and its arguments read as before. No condition.
-/
import Derived.Test.YtndnjggcpdkbiaaRwi
namespace Go.Proofs.Ytndnjggcpdkbiaa
open Go.ChangeShapes Go.WideShapes Go.ChangeAt Go.RowKit

set_option maxRecDepth 100000 in
theorem rowBytes_lifted (os : Os) (started : os.Started) (H : Type) (enc : TypeId × Value → H) :
    ReturnsInHanded {} Try.checked os 3 .any (Rows.rowBytesSpec.pre6 enc Try.prog Try.f3 Rows.rowBytesRow.domain false) (Rows.rowBytesSpec.post enc Try.prog Try.f3 false true false false) := by
  refine returnsInHanded_of_change (C := Try.checked) row_own started (by kernel_rfl) Try.func3
    (ChangeSpec.witness6 (enc := enc) (C := Try.checked) false ⟨#[], #[.slice none 0 0, .slice none 0 0, .int .i64 0], []⟩ 8 (by kernel_rfl) (by kernel_rfl) (by kernel_rfl) (by kernel_rfl)) ?_
  intro W base args ds gs before hval0 hW hcnd _
  have hval : ∀ (j : Nat) t v, Try.f3.params[j]? = some t → args[j]? = some v → Value.okWide Try.prog W .any base t v := hval0
  have hW' := hW
  obtain ⟨p, q, hA0, hV, rfl, hfz, hnd⟩ := hW
  have hA : DataW.TrodAll enc Try.prog W 0 (fun _ => true) true Try.f3.params.toList args.toList ds p := hA0
  rw [Try.params3] at hA hval
  obtain ⟨v0, v1, v2, d0, d1, d2, p0, p1, p2, rfl, rfl, rfl, h0, h1, h2⟩ := trodAll_three hA
  obtain ⟨rfl, rfl⟩ := trodVars_none hV
  obtain ⟨a, la, rfl, ia, ca, wa⟩ := open_sl_ints (k := .u64) (e := ty_uint64) (by kernel_rfl) (by kernel_rfl) (by kernel_rfl) (hval 0 ty_sl_uint64 v0 rfl rfl) h0
  obtain ⟨b, lb, rfl, ib, cb, wb⟩ := open_sl_ints (k := .u8) (e := ty_uint8) (by kernel_rfl) (by kernel_rfl) (by kernel_rfl) (hval 1 ty_sl_uint8 v1 rfl rfl) h1
  obtain ⟨c, rfl, rfl, rfl, wc⟩ := open_int (k := .i64) (t := ty_int) (by kernel_rfl) (hval 2 ty_int v2 rfl rfl) h2
  have hspec := RowBytes_ok (w := c) (H := W.heap) (K := fun b H' => b = true ∧ Ext W.heap H') ia ib (fun x hx => u8_fits (wb x hx)) (fun H' e => ⟨rfl, e⟩)
  refine (hspec W rfl).mono fun e W' ⟨v, he, ⟨x, hx, hb, hext⟩, hal⟩ => ?_
  subst he; subst hx; subst hb
  exact ⟨_, rfl, law_post row_laidOut (by decide +kernel) rfl (by kernel_rfl) rfl rfl rfl rfl hW' hext hal⟩

theorem rowBytes_holds : Rows.RowBytesSaid :=
  OpenClaim.holds_of_wide 3 Try.f3 rfl rfl rfl rfl rfl rfl rfl ⟨rfl, rfl, rfl, rfl, rfl⟩ rfl rfl rfl rfl rfl (by kernel_rfl) Try.func3 (by kernel_rfl)
    (of_decide_eq_true (by kernel_rfl)) (by unfold Func.isWrapper; first | (rw [if_pos (by decide +kernel)]; kernel_rfl) | (rw [if_neg (by decide +kernel)]; exact ⟨rfl, rfl⟩))
    (fun os started H enc _ => rowBytes_lifted os started H enc)
#print axioms rowBytes_holds
end Go.Proofs.Ytndnjggcpdkbiaa
