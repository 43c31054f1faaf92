/-
  DiskPlays: for every input the law returns true, and its arguments read as before. No condition.
-/
import Derived.Test.YtnmaojkkfbajcaaDkp
import Derived.Test.YtnmaojkkfbajcaaDpb
import Derived.Deep.Slices
namespace Go.Proofs.Ytnmaojkkfbajcaa
open Go.ChangeShapes Go.WideShapes Go.ChangeAt Go.RowKit

theorem u8_fits {n : Int} (h : (Lit.int .u8 n).wf = true) : 0 ≤ n ∧ n < 256 := by
  simp only [Lit.wf, Bool.and_eq_true, decide_eq_true_eq] at h
  have h1 : IntKind.u8.min = 0 := rfl
  have h2 : IntKind.u8.max = 255 := rfl
  omega
theorem i64_fits {n : Int} (h : (Lit.int .i64 n).wf = true) : -9223372036854775808 ≤ n ∧ n ≤ 9223372036854775807 := by
  simp only [Lit.wf, Bool.and_eq_true, decide_eq_true_eq] at h
  have h1 : IntKind.i64.min = -9223372036854775808 := rfl
  have h2 : IntKind.i64.max = 9223372036854775807 := rfl
  omega

/-- The fields of a step: type and place. -/
def stepFields : List (TypeId × Nat) := [(ty_int, 0), (ty_string, 1), (ty_string, 2), (ty_int, 3), (ty_uint8, 4), (4, 5), (28, 6)]
theorem step_fields : ∃ fs, Try.prog.underlying ty_fathomlaw01_Step = some (.struct fs) ∧ fs.toList.map (fun f => (f.type, f.offset)) = stepFields := by
  have hb : (match Try.prog.underlying ty_fathomlaw01_Step with | some (.struct fs) => (fs.toList.map (fun f => (f.type, f.offset))) == stepFields | _ => false) = true := by kernel_rfl
  split at hb
  · rename_i fs q; exact ⟨fs, q, by simpa using hb⟩
  · cases hb

set_option maxRecDepth 100000 in
/-- An argument: a slice of steps. -/
theorem open_steps {H : Type} {enc : TypeId × Value → H} {r : Reach} {b0 : Nat} {W : World} {v : Value} {d : DataW H} {ps : List MemPlace}
    (hval : Value.okWide Try.prog W r b0 22 v) (h : DataW.Trod enc Try.prog W 0 (fun _ => true) true 22 v d ps) :
    ∃ (s : Sl) (xs : List StepV), v = Sl.v s ∧ RdE EStep W.heap s.a xs ∧ s.n = xs.length ∧ ∀ x ∈ xs, StepV.fine x := by
  have ht : Try.prog.underlying 22 = some (.slice ty_fathomlaw01_Step) := by kernel_rfl
  obtain ⟨fuel, hf⟩ := h
  rcases Go.Deep.open_slice ht hf with ⟨hcs, _⟩ | ⟨a, len, cap, m, n, D, Pl, hcs, _, hl, hm, hmm, _, hx⟩
  · exact ⟨Sl.mk none 0 0, [], one_cell ht hval hcs, Reads.nil _ _, rfl, by simp⟩
  · have hlm : len ≤ m := by rw [hmm]; simp; exact hl
    have each : ∀ i, i < len → ∃ x : StepV, StepV.fine x ∧ ∀ j u, (EStep.enc x)[j]? = some u → hCell W.heap (a.add (i * 7 + j)) = some u := by
      intro i hi
      obtain ⟨cs', h1, h2⟩ := hx i (by omega)
      rw [step_cells] at h1
      obtain ⟨_, hlen, hcell⟩ := World.cells?_some h1
      obtain ⟨fs, hst, hfs⟩ := step_fields
      obtain ⟨ys, k, _, _, _, hyl, hfd⟩ := DataW.trod_struct hst h2
      have fld : ∀ (j : Nat) (t : TypeId) (o : Nat), stepFields[j]? = some (t, o) → Try.prog.cellsOf t = 1 → ∃ y, DataW.trod enc Try.prog W 0 (fun _ => true) true k t ((cs'.drop o).take 1) = some y := by
        intro j t o hj hc
        rw [← hfs, List.getElem?_map] at hj
        obtain ⟨f, hfj, hfe⟩ := Option.map_eq_some_iff.1 hj
        simp only [Prod.mk.injEq] at hfe
        obtain ⟨rfl, rfl⟩ := hfe
        have hfj' : fs[j]? = some f := by simpa using hfj
        have hjs : j < ys.length := by rw [hyl]; exact (Array.getElem?_eq_some_iff.1 hfj').1
        have := hfd j f hfj'
        rw [hc, List.getElem?_eq_getElem hjs] at this
        exact ⟨_, this⟩
      match cs', hlen with
      | [v0, v1, v2, v3, v4, v5, v6], _ =>
        obtain ⟨y0, g0⟩ := fld 0 ty_int 0 rfl (by kernel_rfl)
        obtain ⟨y1, g1⟩ := fld 1 ty_string 1 rfl (by kernel_rfl)
        obtain ⟨y2, g2⟩ := fld 2 ty_string 2 rfl (by kernel_rfl)
        obtain ⟨y3, g3⟩ := fld 3 ty_int 3 rfl (by kernel_rfl)
        obtain ⟨y4, g4⟩ := fld 4 ty_uint8 4 rfl (by kernel_rfl)
        obtain ⟨y5, g5⟩ := fld 5 4 5 rfl (by kernel_rfl)
        obtain ⟨y6, g6⟩ := fld 6 28 6 rfl (by kernel_rfl)
        obtain ⟨x0, e0, _⟩ := DataW.trod_int (k := .i64) (by kernel_rfl) g0
        obtain ⟨x1, e1, _⟩ := DataW.trod_string (by kernel_rfl) g1
        obtain ⟨x2, e2, _⟩ := DataW.trod_string (by kernel_rfl) g2
        obtain ⟨x3, e3, _, w3⟩ := DataW.trod_int (k := .i64) (by kernel_rfl) g3
        obtain ⟨x4, e4, _, w4⟩ := DataW.trod_int (k := .u8) (by kernel_rfl) g4
        obtain ⟨x5, e5, _⟩ := DataW.trod_bool (by kernel_rfl) g5
        obtain ⟨x6, e6, _⟩ := DataW.trod_int (k := .u64) (by kernel_rfl) g6
        simp at e0 e1 e2 e3 e4 e5 e6
        subst e0 e1 e2 e3 e4 e5 e6
        refine ⟨(x0, x1, x2, x3, x4, x5, x6), ⟨u8_fits w4, (i64_fits w3).2⟩, fun j u hu => ?_⟩
        have hj : j < 7 := by have := (List.getElem?_eq_some_iff.1 hu).1; simpa [EStep] using this
        have := hcell j hj
        rw [Go.Deep.add_add] at this
        have h9 : hCell W.heap (a.add (i * 7 + j)) = _ := this
        rw [h9]
        exact hu
    obtain ⟨xs, h1, h2⟩ := collect (Q := fun i (x : StepV) => StepV.fine x ∧ ∀ j u, (EStep.enc x)[j]? = some u → hCell W.heap (a.add (i * 7 + j)) = some u) len each
    refine ⟨Sl.mk (some a) len cap, xs, one_cell ht hval hcs, ?_, h1.symm, fun x hx => ?_⟩
    · intro q u hu
      have hq : q < xs.length * 7 := by have := (List.getElem?_eq_some_iff.1 hu).1; rwa [Enc.all_length] at this
      have hdm : q = q / 7 * EStep.size + q % 7 := by show q = q / 7 * 7 + q % 7; omega
      rw [hdm, Enc.all_get EStep xs (q / 7) (q % 7) (Nat.mod_lt _ (by decide))] at hu
      have hq7 : q / 7 < xs.length := by omega
      rw [List.getElem?_eq_getElem hq7] at hu
      refine ⟨a, rfl, ?_⟩
      have := (h2 (q / 7) hq7).2 (q % 7) u hu
      rwa [show q / 7 * 7 + q % 7 = q by omega] at this
    · obtain ⟨i, hi, rfl⟩ := List.getElem_of_mem hx
      exact (h2 i hi).1

set_option maxRecDepth 100000 in
theorem diskPlays_lifted (os : Os) (started : os.Started) (H : Type) (enc : TypeId × Value → H) :
    ReturnsInHanded {} Try.checked os 3 .any (Rows.diskPlaysSpec.pre6 enc Try.prog Try.f3 Rows.diskPlaysRow.domain false) (Rows.diskPlaysSpec.post enc Try.prog Try.f3 false true false false) := by
  refine returnsInHanded_of_change (C := Try.checked) prog_own started (by kernel_rfl) Try.func3
    (ChangeSpec.witness6 (enc := enc) (C := Try.checked) false ⟨#[], #[.int .i64 0, .slice none 0 0], []⟩ 8 (by kernel_rfl) (by kernel_rfl) (by kernel_rfl) (by kernel_rfl)) ?_
  intro W base args ds gs before hval0 hW hcnd _
  have hval : ∀ (j : Nat) t v, Try.f3.params[j]? = some t → args[j]? = some v → Value.okWide Try.prog W .any base t v := hval0
  have hW' := hW
  obtain ⟨p, q, hA0, hV, rfl, hfz, hnd⟩ := hW
  have hA : DataW.TrodAll enc Try.prog W 0 (fun _ => true) true Try.f3.params.toList args.toList ds p := hA0
  rw [Try.params3] at hA hval
  obtain ⟨v0, v1, d0, d1, p0, p1, rfl, rfl, rfl, h0, h1⟩ := trodAll_two hA
  obtain ⟨rfl, rfl⟩ := trodVars_none hV
  obtain ⟨n, rfl, hn⟩ := wide_int (k := .i64) (hval 0 ty_int v0 rfl rfl) (by kernel_rfl)
  obtain ⟨s, xs, rfl, hx, hlen, hfine⟩ := open_steps (hval 1 22 v1 rfl rfl) h1
  have hspec := DiskPlays_ok (p := n) (p1 := s) (xs := xs) (H := W.heap) (K := fun b H' => b = true ∧ Ext W.heap H') (has_i64 hn).2 hx hlen hfine (fun H' e => ⟨rfl, e⟩)
  refine (hspec W rfl).mono fun e W' ⟨v, he, ⟨x, hx, hb, hext⟩, hal⟩ => ?_
  subst he; subst hx; subst hb
  exact ⟨_, rfl, law_post prog_laidOut (by decide +kernel) rfl (by kernel_rfl) rfl rfl rfl rfl hW' hext hal⟩

theorem diskPlays_holds : Rows.DiskPlaysSaid :=
  OpenClaim.holds_of_wide 3 Try.f3 rfl rfl rfl rfl rfl rfl rfl ⟨rfl, rfl, rfl, rfl, rfl⟩ rfl rfl rfl rfl rfl (by kernel_rfl) Try.func3 (by kernel_rfl)
    (of_decide_eq_true (by kernel_rfl)) (by unfold Func.isWrapper; first | (rw [if_pos (by decide +kernel)]; kernel_rfl) | (rw [if_neg (by decide +kernel)]; exact ⟨rfl, rfl⟩))
    (fun os started H enc _ => diskPlays_lifted os started H enc)
#print axioms diskPlays_holds
end Go.Proofs.Ytnmaojkkfbajcaa
