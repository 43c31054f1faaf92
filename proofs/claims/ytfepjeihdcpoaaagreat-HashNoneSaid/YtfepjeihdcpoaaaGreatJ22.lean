/-
  HashNone: for every input the law returns true, and its arguments read as before. No condition.
-/
import Derived.Test.YtfepjeihdcpoaaaGreatRows
import Derived.Test.YtfepjeihdcpoaaaGreatJ20
import Derived.Test.YtfepjeihdcpoaaaGreatFxh
namespace Go.Proofs.YtfepjeihdcpoaaaGreat
open Go.ChangeShapes Go.WideShapes Go.ChangeAt Go.RowKit

theorem hs_own : ownKnob Tryz.prog.godebug = none := by kernel_rfl
theorem hs_laidOut : laidOutB Tryz.prog = true := by kernel_rfl

set_option maxRecDepth 100000 in
theorem hashNone_lifted (os : Os) (started : os.Started) (H : Type) (enc : TypeId × Value → H) :
    ReturnsInHanded {} Tryz.checked os 4 .any (Rows.hashNoneSpec.pre6 enc Tryz.prog Tryz.f4 Rows.hashNoneRow.domain false) (Rows.hashNoneSpec.post enc Tryz.prog Tryz.f4 false true false false) := by
  refine returnsInHanded_of_change (C := Tryz.checked) hs_own started (by kernel_rfl) Tryz.func4
    (ChangeSpec.witness6 (enc := enc) (C := Tryz.checked) false ⟨#[], #[.int .i64 0, .int .i64 0, .slice none 0 0], []⟩ 8 (by kernel_rfl) (by kernel_rfl) (by kernel_rfl) (by kernel_rfl)) ?_
  intro W base args ds gs before hval0 hW hcnd _
  have hval : ∀ (j : Nat) t v, Tryz.f4.params[j]? = some t → args[j]? = some v → Value.okWide Tryz.prog W .any base t v := hval0
  have hW' := hW
  obtain ⟨p, q, hA0, hV, rfl, hfz, hnd⟩ := hW
  have hA : DataW.TrodAll enc Tryz.prog W 0 (fun _ => true) true Tryz.f4.params.toList args.toList ds p := hA0
  rw [Tryz.params4] at hA hval
  obtain ⟨v0, v1, v2, d0, d1, d2, p0, p1, p2, rfl, rfl, rfl, h0, h1, h2⟩ := trodAll_three hA
  obtain ⟨rfl, rfl⟩ := trodVars_none hV
  obtain ⟨w, rfl, rfl, rfl, _⟩ := open_int (k := .i64) (t := ty_int) (by kernel_rfl) (hval 0 ty_int v0 rfl rfl) h0
  obtain ⟨b, rfl, rfl, rfl, _⟩ := open_int (k := .i64) (t := ty_int) (by kernel_rfl) (hval 1 ty_int v1 rfl rfl) h1
  obtain ⟨a, la, rfl, ia, ca, wa⟩ := open_sl_ints (k := .i64) (e := ty_int) (by kernel_rfl) (by kernel_rfl) (by kernel_rfl) (hval 2 ty_sl_int v2 rfl rfl) h2
  have hspec := HashNone_ok (width := w) (frames := b) (cols := a) (H := W.heap) (K := fun b H' => b = true ∧ Ext W.heap H') (fun H' e => ⟨rfl, e⟩)
  refine (hspec W rfl).mono fun e W' ⟨v, he, ⟨x, hx, hb, hext⟩, hal⟩ => ?_
  subst he; subst hx; subst hb
  exact ⟨_, rfl, law_post hs_laidOut (by decide +kernel) rfl (by kernel_rfl) rfl rfl rfl rfl hW' hext hal⟩

theorem hashNone_holds : Rows.HashNoneSaid :=
  OpenClaim.holds_of_wide 4 Tryz.f4 rfl rfl rfl rfl rfl rfl rfl ⟨rfl, rfl, rfl, rfl, rfl⟩ rfl rfl rfl rfl rfl (by kernel_rfl) Tryz.func4 (by kernel_rfl)
    (of_decide_eq_true (by kernel_rfl)) (by unfold Func.isWrapper; first | (rw [if_pos (by decide +kernel)]; kernel_rfl) | (rw [if_neg (by decide +kernel)]; exact ⟨rfl, rfl⟩))
    (fun os started H enc _ => hashNone_lifted os started H enc)
#print axioms hashNone_holds
end Go.Proofs.YtfepjeihdcpoaaaGreat
