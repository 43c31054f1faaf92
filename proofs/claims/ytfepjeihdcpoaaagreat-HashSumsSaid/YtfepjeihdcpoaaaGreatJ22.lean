/-
  HashSums: for every input the law returns true, and its arguments read as before. No condition.
-/
import Derived.Test.YtfepjeihdcpoaaaGreatRows
import Derived.Test.YtfepjeihdcpoaaaGreatJ20
import Derived.Test.YtfepjeihdcpoaaaGreatFxh
namespace Go.Proofs.YtfepjeihdcpoaaaGreat
open Go.ChangeShapes Go.WideShapes Go.ChangeAt Go.RowKit

theorem hs_own : ownKnob Tryz.prog.godebug = none := by kernel_rfl
theorem hs_laidOut : laidOutB Tryz.prog = true := by kernel_rfl

set_option maxRecDepth 100000 in
theorem hashSums_lifted (os : Os) (started : os.Started) (H : Type) (enc : TypeId × Value → H) :
    ReturnsInHanded {} Tryz.checked os 3 .any (Rows.hashSumsSpec.pre6 enc Tryz.prog Tryz.f3 Rows.hashSumsRow.domain false) (Rows.hashSumsSpec.post enc Tryz.prog Tryz.f3 false true false false) := by
  refine returnsInHanded_of_change (C := Tryz.checked) hs_own started (by kernel_rfl) Tryz.func3
    (ChangeSpec.witness6 (enc := enc) (C := Tryz.checked) false ⟨#[], #[.slice none 0 0, .int .i64 0], []⟩ 8 (by kernel_rfl) (by kernel_rfl) (by kernel_rfl) (by kernel_rfl)) ?_
  intro W base args ds gs before hval0 hW hcnd _
  have hval : ∀ (j : Nat) t v, Tryz.f3.params[j]? = some t → args[j]? = some v → Value.okWide Tryz.prog W .any base t v := hval0
  have hW' := hW
  obtain ⟨p, q, hA0, hV, rfl, hfz, hnd⟩ := hW
  have hA : DataW.TrodAll enc Tryz.prog W 0 (fun _ => true) true Tryz.f3.params.toList args.toList ds p := hA0
  rw [Tryz.params3] at hA hval
  obtain ⟨v0, v1, d0, d1, p0, p1, rfl, rfl, rfl, h0, h1⟩ := trodAll_two hA
  obtain ⟨rfl, rfl⟩ := trodVars_none hV
  obtain ⟨a, la, rfl, ia, ca, wa⟩ := open_sl_ints (k := .u64) (e := ty_uint64) (by kernel_rfl) (by kernel_rfl) (by kernel_rfl) (hval 0 ty_sl_uint64 v0 rfl rfl) h0
  obtain ⟨b, rfl, rfl, rfl, wb⟩ := open_int (k := .i64) (t := ty_int) (by kernel_rfl) (hval 1 ty_int v1 rfl rfl) h1
  have hspec := HashSums_ok (level := b) (H := W.heap) (K := fun b H' => b = true ∧ Ext W.heap H') ia (fun H' e => ⟨rfl, e⟩)
  refine (hspec W rfl).mono fun e W' ⟨v, he, ⟨x, hx, hb, hext⟩, hal⟩ => ?_
  subst he; subst hx; subst hb
  exact ⟨_, rfl, law_post hs_laidOut (by decide +kernel) rfl (by kernel_rfl) rfl rfl rfl rfl hW' hext hal⟩

theorem hashSums_holds : Rows.HashSumsSaid :=
  OpenClaim.holds_of_wide 3 Tryz.f3 rfl rfl rfl rfl rfl rfl rfl ⟨rfl, rfl, rfl, rfl, rfl⟩ rfl rfl rfl rfl rfl (by kernel_rfl) Tryz.func3 (by kernel_rfl)
    (of_decide_eq_true (by kernel_rfl)) (by unfold Func.isWrapper; first | (rw [if_pos (by decide +kernel)]; kernel_rfl) | (rw [if_neg (by decide +kernel)]; exact ⟨rfl, rfl⟩))
    (fun os started H enc _ => hashSums_lifted os started H enc)
#print axioms hashSums_holds
end Go.Proofs.YtfepjeihdcpoaaaGreat
