/-
  PoolPins: for every input the law returns true, and its argument reads as before; the table of the page's sum is laid as the program's text lays it. No condition beside that.
-/
import Derived.Test.YtbhddkmfhampbaaDoorPkp
import Derived.Test.YtbhddkmfhampbaaDoorPpp
namespace Go.Proofs.YtbhddkmfhampbaaDoor
open Go.ChangeShapes Go.WideShapes Go.ChangeAt Go.RowKit

set_option maxRecDepth 100000 in
theorem poolPins_lifted (os : Os) (started : os.Started) (H : Type) (enc : TypeId × Value → H) :
    ReturnsInHanded {} Tryd.checked os 3 .any (fun w args => (Rows.poolPinsSpec.pre enc Tryd.prog Tryd.f3 [] false w args ∧ laidMetH Tryd.prog laidS w) ∧ sizedMet enc Tryd.prog Tryd.f3 (OpenSpec.ofChange Rows.poolPinsSpec) false w args)
      (Rows.poolPinsSpec.post enc Tryd.prog Tryd.f3 false true false false) := by
  refine returnsInHanded_of_change_and (C := Tryd.checked) (X := fun w _ => laidMetH Tryd.prog laidS w) (fun _ _ _ hh h => h.of_heap hh) pprog_own started (by kernel_rfl) Tryd.func3
    (ChangeSpec.witness_shaped (enc := enc) (C := Tryd.checked) (os := os) (X := fun w _ => laidMetH Tryd.prog laidS w) false (World.doorLaid Tryd.prog 400 os) #[.int .i64 0] 8 rfl (World.shaped_of_RefB (by kernel_rfl) (by kernel_rfl)) (by kernel_rfl) (by kernel_rfl) (by kernel_rfl) (door_met os _)) ?_
  intro W base args ds gs before hval0 hW _ _ hL _
  have hval : ∀ (j : Nat) t v, Tryd.f3.params[j]? = some t → args[j]? = some v → Value.okWide Tryd.prog W .any base t v := hval0
  have hW' := hW
  obtain ⟨p, q, hA0, hV, rfl, hfz, hnd⟩ := hW
  have hA : DataW.TrodAll enc Tryd.prog W 0 (fun _ => true) true Tryd.f3.params.toList args.toList ds p := hA0
  rw [Tryd.params3] at hA hval
  obtain ⟨v0, d0, rfl, rfl, h0⟩ := trodAll_one hA
  obtain ⟨rfl, rfl⟩ := trodVars_none hV
  obtain ⟨x, rfl, rfl, rfl, wx⟩ := open_int (k := .i64) (t := ty_int) (by kernel_rfl) (hval 0 ty_int v0 rfl rfl) h0
  have hspec := PoolPins_ok (frames := x) (H := W.heap) (K := fun b H' => b = true ∧ Ext W.heap H') (gl_of_laid hL) (fun H' e => ⟨rfl, e⟩)
  refine (hspec W rfl).mono fun e W' ⟨v, he, ⟨x, hx, hb, hext⟩, hal⟩ => ?_
  subst he; subst hx; subst hb
  exact ⟨_, rfl, law_post pprog_laidOut (by decide +kernel) rfl (by kernel_rfl) rfl rfl rfl rfl hW' hext hal⟩

theorem poolPins_row : Rows.PoolPinsSaid :=
  OpenClaim.holds_of_wide 3 Tryd.f3 rfl rfl rfl rfl rfl rfl rfl ⟨rfl, rfl, rfl, rfl, rfl⟩ rfl rfl rfl rfl rfl (by kernel_rfl) Tryd.func3 (by kernel_rfl)
    (of_decide_eq_true (by kernel_rfl)) (by unfold Func.isWrapper; first | (rw [if_pos (by decide +kernel)]; kernel_rfl) | (rw [if_neg (by decide +kernel)]; exact ⟨rfl, rfl⟩))
    (fun os started H enc _ => poolPins_lifted os started H enc)

/-- The card: the table tied to the program's text. -/
theorem poolPins_holds : Rows.PoolPinsCardSaid :=
  Claim7.holds_tied_plain_at .later [] [.data] true _ false
    poolPins_row (fun _ h => by cases h) (by kernel_rfl) (fun _ h => by cases h) poolPins_row_tie rfl ⟨rfl, rfl⟩ (by kernel_rfl) rfl
    (fun f fn hf hfn => by
      obtain rfl : f = 3 := Option.some.inj ((show Tryd.prog.funcNamed "fathom/fathomlaw03.PoolPins" = some 3 by kernel_rfl).symm.trans hf) |>.symm
      obtain rfl : fn = Tryd.f3 := (Option.some.inj (Tryd.func3.symm.trans hfn)).symm
      exact ⟨by kernel_rfl, fun j t ht => by
        rw [Tryd.params3] at ht
        have hm : t ∈ [ty_int] := by simpa using Array.mem_of_getElem? ht
        have hall : ([ty_int].all fun u => !Tryd.prog.wantsStandIn u) = true := by kernel_rfl
        exact (show Tryd.prog.wantsStandIn t = false by simpa using List.all_eq_true.1 hall t hm)⟩)
    (by kernel_rfl)
#print axioms poolPins_holds
end Go.Proofs.YtbhddkmfhampbaaDoor
