/-
  TreeSpoilt: for every input the law returns true, and its arguments read as before; the table of the page's sum is laid as the program's text lays it. No condition beside that.
-/
import Derived.Test.YtmdiinakfpgdjaaDoorPkp
import Derived.Test.YtmdiinakfpgdjaaDoorFxn
import Derived.Test.YtmdiinakfpgdjaaDoorFxt
import Derived.Test.YtmdiinakfpgdjaaDoorJ39
import Derived.Test.YtmdiinakfpgdjaaDoorFxz
namespace Go.Proofs.YtmdiinakfpgdjaaDoor
open Go.ChangeShapes Go.WideShapes Go.ChangeAt Go.RowKit

set_option maxRecDepth 100000 in
theorem treeSpoilt_lifted (os : Os) (started : os.Started) (H : Type) (enc : TypeId × Value → H) :
    ReturnsInHanded {} Tryd.checked os 3 .any (fun w args => (Rows.treeSpoiltSpec.pre enc Tryd.prog Tryd.f3 [] false w args ∧ laidMetH Tryd.prog laidS w) ∧ sizedMet enc Tryd.prog Tryd.f3 (OpenSpec.ofChange Rows.treeSpoiltSpec) false w args)
      (Rows.treeSpoiltSpec.post enc Tryd.prog Tryd.f3 false true false false) := by
  refine returnsInHanded_of_change_and (C := Tryd.checked) (X := fun w _ => laidMetH Tryd.prog laidS w) (fun _ _ _ hh h => h.of_heap hh) pprog_own started (by kernel_rfl) Tryd.func3
    (ChangeSpec.witness_shaped (enc := enc) (C := Tryd.checked) (os := os) (X := fun w _ => laidMetH Tryd.prog laidS w) false (World.doorLaid Tryd.prog 400 os) #[.slice none 0 0, .slice none 0 0, .int .i64 0, .slice none 0 0] 8 rfl (World.shaped_of_RefB (by kernel_rfl) (by kernel_rfl)) (by kernel_rfl) (by kernel_rfl) (by kernel_rfl) (door_met os _)) ?_
  intro W base args ds gs before hval0 hW _ hz hL _
  have hval : ∀ (j : Nat) t v, Tryd.f3.params[j]? = some t → args[j]? = some v → Value.okWide Tryd.prog W .any base t v := hval0
  have hW' := hW
  obtain ⟨p, q, hA0, hV, rfl, hfz, hnd⟩ := hW
  have hA : DataW.TrodAll enc Tryd.prog W 0 (fun _ => true) true Tryd.f3.params.toList args.toList ds p := hA0
  rw [Tryd.params3] at hA hval
  obtain ⟨v0, v1, v2, v3, d0, d1, d2, d3, p0, p1, p2, p3, rfl, rfl, rfl, h0, h1, h2, h3⟩ := trodAll_four hA
  obtain ⟨rfl, rfl⟩ := trodVars_none hV
  obtain ⟨pages, pl, rfl, pn, _, pa⟩ := open_sl_sl_ints (k := .u8) (e := ty_sl_uint8) (e2 := ty_uint8) (by kernel_rfl) (by kernel_rfl) (by kernel_rfl) (by kernel_rfl) (by kernel_rfl) (hval 0 _ v0 rfl rfl) h0
  obtain ⟨kinds, kl, rfl, ik, _, wk⟩ := open_sl_ints (k := .u8) (e := ty_uint8) (by kernel_rfl) (by kernel_rfl) (by kernel_rfl) (hval 1 ty_sl_uint8 v1 rfl rfl) h1
  obtain ⟨width, rfl, _⟩ := wide_int (k := .i64) (hval 2 ty_int v2 rfl rfl) (by kernel_rfl)
  have hsz : ∀ n ∈ d3.weights Tryd.prog ty_sl_sl_uint64, n ≤ reachBytes := fun n hn => by
    have := List.all_eq_true.1 hz n (DataW.weights_mem_each (j := 3) (by rw [Tryd.params3]; rfl) rfl n hn)
    simpa using this
  obtain ⟨rows, rl, rfl, rn, _, ra⟩ := open_sl_sl_sized (k := .u64) (e := ty_sl_uint64) (e2 := ty_uint64) (by kernel_rfl) (by kernel_rfl) (by kernel_rfl) (by kernel_rfl) (by kernel_rfl) (hval 3 ty_sl_sl_uint64 v3 rfl rfl) h3 hsz
  have hb8 : Tryd.prog.bytesOf ty_uint64 = 8 := by kernel_rfl
  have hspec := TreeSpoilt_ok (pages := pages) (kinds := kinds) (rows := rows) (width := width) (pl := pl) (rl := rl) (kl := kl) (H := W.heap) (K := fun b H' => b = true ∧ Ext W.heap H') (gl_of_laid hL)
    ⟨pn, fun i hi => by obtain ⟨ad, rr, q1, q2, q3, _⟩ := pa i hi; exact ⟨ad, rr, q1, q2, q3⟩⟩
    (fun l hl x hx => by
      obtain ⟨i, hi, rfl⟩ := List.mem_iff_getElem.1 hl
      obtain ⟨_, _, _, _, _, _, q⟩ := pa i hi
      exact fits_u8 (q x hx))
    ik (fun x hx => fits_u8 (wk x hx))
    ⟨rn, fun i hi => by obtain ⟨ad, rr, q1, q2, q3, _⟩ := ra i hi; exact ⟨ad, rr, q1, q2, q3⟩⟩
    (fun l hl => by
      obtain ⟨i, hi, rfl⟩ := List.mem_iff_getElem.1 hl
      obtain ⟨_, _, _, _, _, _, _, q⟩ := ra i hi
      rw [hb8] at q
      have : reachBytes = 140737488351232 := rfl
      omega)
    (fun H' e => ⟨rfl, e⟩)
  refine (hspec W rfl).mono fun e W' ⟨v, he, ⟨x, hx, hb, hext⟩, hal⟩ => ?_
  subst he; subst hx; subst hb
  exact ⟨_, rfl, law_post pprog_laidOut (by decide +kernel) rfl (by kernel_rfl) rfl rfl rfl rfl hW' hext hal⟩

theorem treeSpoilt_row : Rows.TreeSpoiltSaid :=
  OpenClaim.holds_of_wide 3 Tryd.f3 rfl rfl rfl rfl rfl rfl rfl ⟨rfl, rfl, rfl, rfl, rfl⟩ rfl rfl rfl rfl rfl (by kernel_rfl) Tryd.func3 (by kernel_rfl)
    (of_decide_eq_true (by kernel_rfl)) (by unfold Func.isWrapper; first | (rw [if_pos (by decide +kernel)]; kernel_rfl) | (rw [if_neg (by decide +kernel)]; exact ⟨rfl, rfl⟩))
    (fun os started H enc _ => treeSpoilt_lifted os started H enc)

/-- The card: the table tied to the program's text. -/
theorem treeSpoilt_holds : Rows.TreeSpoiltCardSaid :=
  Claim7.holds_tied_plain_at .later [] [.data] true _ false
    treeSpoilt_row (fun _ h => by cases h) (by kernel_rfl) (fun _ h => by cases h) treeSpoilt_row_tie rfl ⟨rfl, rfl⟩ (by kernel_rfl) rfl
    (fun f fn hf hfn => by
      obtain rfl : f = 3 := Option.some.inj ((show Tryd.prog.funcNamed "fathom/fathomlaw09.TreeSpoilt" = some 3 by kernel_rfl).symm.trans hf) |>.symm
      obtain rfl : fn = Tryd.f3 := (Option.some.inj (Tryd.func3.symm.trans hfn)).symm
      exact ⟨by kernel_rfl, fun j t ht => by
        rw [Tryd.params3] at ht
        have hm : t ∈ [22, ty_sl_uint8, ty_int, ty_sl_sl_uint64] := by simpa using Array.mem_of_getElem? ht
        have hall : ([22, ty_sl_uint8, ty_int, ty_sl_sl_uint64].all fun u => !Tryd.prog.wantsStandIn u) = true := by kernel_rfl
        exact (show Tryd.prog.wantsStandIn t = false by simpa using List.all_eq_true.1 hall t hm)⟩)
    (by kernel_rfl)
#print axioms treeSpoilt_holds
end Go.Proofs.YtmdiinakfpgdjaaDoor
