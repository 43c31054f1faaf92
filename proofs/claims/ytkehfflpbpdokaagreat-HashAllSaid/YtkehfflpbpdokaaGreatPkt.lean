/-
 What statements share that list no table: whatever the page's table holds, it holds sixteen words of 32 bits.
-/
import Derived.Test.YtkehfflpbpdokaaGreatRows
import Derived.Test.YtkehfflpbpdokaaGreatPgb
import Derived.Test.YtkehfflpbpdokaaGreatFxh
import Derived.Handed
namespace Go.Proofs.YtkehfflpbpdokaaGreat
open Go.ChangeShapes Go.WideShapes Go.ChangeAt Go.RowKit
-- TABOFF
theorem tprog_own : ownKnob Tryz.prog.godebug = none := by kernel_rfl
theorem tprog_laidOut : laidOutB Tryz.prog = true := by kernel_rfl
section
variable {H : Type} {enc : TypeId × Value → H}
theorem handed_of_shape {C : Checked} {os : Os} {f : FuncId} {fn : Func} {s : ChangeSpec} {conds : List PathCond} {apart fresh handsOn again : Bool} {a : Assume}
  (own : ownKnob C.prog.godebug = none) (started : os.Started) (noInit : C.prog.inits.idxOf? f = none) (hfn : C.prog.funcs[f]? = some fn)
  (witness : ∃ (w : World) (tape : Tape) (i : Input), w.os = os ∧ (w.forCall tape i).Shaped C.prog ∧ i.vars = [] ∧ Input.okWide C.prog (w.forCall tape i) .any w.heap.size f i ∧
   s.pre6 enc C.prog fn conds apart (w.forCall tape i).memory i.args ∧ a.holds C.prog (lone (Frame.enter C.prog f i.args .normal) [] (w.forCall tape i)))
  (k : ∀ (W : World) (base : Nat) (args : Array Value) (ds gs : List (DataW H)) (before : List MemPlace), W.ShapedOpen C.prog →
   (∀ (j : Nat) t v, fn.params[j]? = some t → args[j]? = some v → Value.okWide C.prog W .any base t v) →
   DataW.Whole enc C.prog fn.params.toList s.vars apart W args.toList ds gs before →
   Calls C.prog f args W fun e W' => ∃ v, e = .returned v ∧ s.post enc C.prog fn apart fresh handsOn again W args v W') :
  ReturnsInHanded a C os f .any (s.pre6 enc C.prog fn conds apart) (s.post enc C.prog fn apart fresh handsOn again) :=
 returnsInHanded_of_calls own started noInit witness fun w tape i _ hshape _ hok hpre _ => by
  obtain ⟨_, _, _, g, hg, _, _, _, _, hval⟩ := hok
  cases Option.some.inj (hg.symm.trans hfn)
  obtain ⟨⟨ds, gs, before, hw, _⟩, _⟩ := hpre
  refine (k _ w.heap.size i.args ds gs before hshape hval (DataW.Whole.of_heap (by rfl) hw)).mono fun e W' h => ?_
  obtain ⟨v, rfl, hp⟩ := h
  exact ChangeSpec.post_blind hp
end
theorem steps_zero : ((begin Tryz.prog (fun _ _ => 0) default).world.heap[gSteps]?).bind Obj.row? = some (Array.replicate 16 (.int .u32 0), 233) := by kernel_rfl
theorem steps_types : Tryz.prog.cellTypes Tryz.prog.depth 233 = some (List.replicate 16 108) := by kernel_rfl
theorem has_u32 {n : Int} (h : IntKind.u32.has n) : 0 ≤ n ∧ n < 4294967296 := by
 have h1 : IntKind.u32.min = 0 := rfl
 have h2 : IntKind.u32.max = 4294967295 := rfl
 unfold IntKind.has at h
 omega
theorem cell_u32 {P : Program} {W : World} {r : Reach} {base : Nat} {t : TypeId} {v : Value} (hu : P.underlying t = some (.int .u32)) (h : Cell.ok P W r base t v) : ∃ n, v = .int .u32 n ∧ 0 ≤ n ∧ n < 4294967296 := by
 unfold Cell.ok at h
 rw [hu] at h
 cases v
 case int k n =>
  obtain ⟨e, hn⟩ := h
  subst e
  exact ⟨n, rfl, has_u32 hn⟩
 all_goals exact h.elim
def wordT (v : Value) : BitVec 32 := match v with | .int _ n => BitVec.ofInt 32 n | _ => 0#32
set_option maxRecDepth 100000 in
theorem gl_of_shape {W : World} (h : W.ShapedOpen Tryz.prog) : ∃ T : Tab, @Gl T W.heap := by
 obtain ⟨cs, hcell, hs, hr⟩ := h.1 gSteps _ _ (by decide +kernel) steps_zero
 obtain ⟨ts, hts, _, hall⟩ := hr (by kernel_rfl)
 rw [steps_types] at hts
 cases hts
 have hs16 : cs.size = 16 := by rw [hs]; rfl
 refine ⟨⟨cs.toList.map wordT⟩, fun i hi => ?_⟩
 have hil : i < cs.size := by omega
 obtain ⟨u, hu, hok⟩ := hall i cs[i] (by simp [hil])
 have eu : u = 108 := by
  have := List.mem_of_getElem? hu
  exact List.eq_of_mem_replicate this
 subst eu
 have hu32 : Tryz.prog.underlying 108 = some (.int .u32) := by kernel_rfl
 obtain ⟨n, hv, h0, h1⟩ := cell_u32 (P := Tryz.prog) (W := W) hu32 hok
 have e1 : cs[i]? = some (Value.int .u32 n) := by rw [Array.getElem?_eq_getElem hil, hv]
 have e2 : (cs.toList.map wordT).getD i 0#32 = BitVec.ofInt 32 n := by
  rw [List.getD, List.getElem?_map, Array.getElem?_toList, e1]; rfl
 have e3 : (((cs.toList.map wordT).getD i 0#32).toNat : Int) = n := by
  rw [e2, BitVec.toNat_ofInt]; omega
 refine hCell_of hcell ?_
 rw [e1]
 show some (Value.int .u32 n) = some (Value.int .u32 (((cs.toList.map wordT).getD i 0#32).toNat : Int))
 rw [e3]
end Go.Proofs.YtkehfflpbpdokaaGreat
