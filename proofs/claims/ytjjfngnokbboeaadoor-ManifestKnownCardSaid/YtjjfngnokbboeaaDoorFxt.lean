/-
  Ground: five arguments; what fits in an integer's kind; the fields of a struct among the arguments.
-/
import Derived.Test.YtjjfngnokbboeaaDoorFxh
import Derived.Test.YtjjfngnokbboeaaDoorFxn
import Derived.Test.YtjjfngnokbboeaaDoorFxk
import Derived.Carry
import Derived.Deep.Slices
namespace Go.Proofs.YtjjfngnokbboeaaDoor
open Go.RowKit Go.WideShapes Go.ChangeShapes Go.WideElems

section
variable {H : Type} {enc : TypeId × Value → H} {P : Program} {w : World} {base : Nat} {spare : Nat → Bool} {held : Bool}

theorem trodAll_five {t t' t'' t3 t4 : TypeId} {args : Array Value} {ds : List (DataW H)} {ps : List MemPlace} (h : DataW.TrodAll enc P w base spare held [t, t', t'', t3, t4] args.toList ds ps) :
    ∃ v v' v'' v3 v4 d d' d'' d3 d4 p p' p'' p3 p4, args = #[v, v', v'', v3, v4] ∧ ds = [d, d', d'', d3, d4] ∧ ps = p ++ p' ++ p'' ++ p3 ++ p4 ∧ DataW.Trod enc P w base spare held t v d p ∧ DataW.Trod enc P w base spare held t' v' d' p' ∧ DataW.Trod enc P w base spare held t'' v'' d'' p'' ∧ DataW.Trod enc P w base spare held t3 v3 d3 p3 ∧ DataW.Trod enc P w base spare held t4 v4 d4 p4 := by
  obtain ⟨v, vs, d, ds', p, q, hargs, rfl, rfl, hd, hrest⟩ := trodAll_cons h
  obtain ⟨v', vs', d', ds'', p', q', rfl, rfl, rfl, hd', hrest'⟩ := trodAll_cons hrest
  obtain ⟨v'', vs'', d'', ds''', p'', q'', rfl, rfl, rfl, hd'', hrest''⟩ := trodAll_cons hrest'
  obtain ⟨v3, vs3, d3, ds3, p3, q3, rfl, rfl, rfl, hd3, hrest3⟩ := trodAll_cons hrest''
  obtain ⟨v4, vs4, d4, ds4, p4, q4, rfl, rfl, rfl, hd4, hrest4⟩ := trodAll_cons hrest3
  obtain ⟨rfl, rfl, rfl⟩ := trodAll_nil hrest4
  exact ⟨v, v', v'', v3, v4, d, d', d'', d3, d4, p, p', p'', p3, p4, by cases args; simp_all, rfl, by simp, hd, hd', hd'', hd3, hd4⟩
theorem trodAll_six {t t' t'' t3 t4 t5 : TypeId} {args : Array Value} {ds : List (DataW H)} {ps : List MemPlace} (h : DataW.TrodAll enc P w base spare held [t, t', t'', t3, t4, t5] args.toList ds ps) :
    ∃ v v' v'' v3 v4 v5 d d' d'' d3 d4 d5 p p' p'' p3 p4 p5, args = #[v, v', v'', v3, v4, v5] ∧ ds = [d, d', d'', d3, d4, d5] ∧ ps = p ++ p' ++ p'' ++ p3 ++ p4 ++ p5 ∧ DataW.Trod enc P w base spare held t v d p ∧ DataW.Trod enc P w base spare held t' v' d' p' ∧ DataW.Trod enc P w base spare held t'' v'' d'' p'' ∧ DataW.Trod enc P w base spare held t3 v3 d3 p3 ∧ DataW.Trod enc P w base spare held t4 v4 d4 p4 ∧ DataW.Trod enc P w base spare held t5 v5 d5 p5 := by
  obtain ⟨v, vs, d, ds', p, q, hargs, rfl, rfl, hd, hrest⟩ := trodAll_cons h
  obtain ⟨v', vs', d', ds'', p', q', rfl, rfl, rfl, hd', hrest'⟩ := trodAll_cons hrest
  obtain ⟨v'', vs'', d'', ds''', p'', q'', rfl, rfl, rfl, hd'', hrest''⟩ := trodAll_cons hrest'
  obtain ⟨v3, vs3, d3, ds3, p3, q3, rfl, rfl, rfl, hd3, hrest3⟩ := trodAll_cons hrest''
  obtain ⟨v4, vs4, d4, ds4, p4, q4, rfl, rfl, rfl, hd4, hrest4⟩ := trodAll_cons hrest3
  obtain ⟨v5, vs5, d5, ds5, p5, q5, rfl, rfl, rfl, hd5, hrest5⟩ := trodAll_cons hrest4
  obtain ⟨rfl, rfl, rfl⟩ := trodAll_nil hrest5
  exact ⟨v, v', v'', v3, v4, v5, d, d', d'', d3, d4, d5, p, p', p'', p3, p4, p5, by cases args; simp_all, rfl, by simp, hd, hd', hd'', hd3, hd4, hd5⟩
end

theorem fits_u8 {n : Int} (h : (Lit.int .u8 n).wf = true) : 0 ≤ n ∧ n < 256 := by
  simp only [Lit.wf, Bool.and_eq_true, decide_eq_true_eq] at h
  have h1 : IntKind.u8.min = 0 := rfl
  have h2 : IntKind.u8.max = 255 := rfl
  omega
theorem fits_i64 {n : Int} (h : (Lit.int .i64 n).wf = true) : -9223372036854775808 ≤ n ∧ n ≤ 9223372036854775807 := by
  simp only [Lit.wf, Bool.and_eq_true, decide_eq_true_eq] at h
  have h1 : IntKind.i64.min = -9223372036854775808 := rfl
  have h2 : IntKind.i64.max = 9223372036854775807 := rfl
  omega
theorem fits_u64 {n : Int} (h : (Lit.int .u64 n).wf = true) : 0 ≤ n ∧ n < 18446744073709551616 := by
  simp only [Lit.wf, Bool.and_eq_true, decide_eq_true_eq] at h
  have h1 : IntKind.u64.min = 0 := rfl
  have h2 : IntKind.u64.max = 18446744073709551615 := rfl
  omega

/-- An argument: a slice of structs of 'n' cells, each read by 'Fs'. -/
theorem open_structs {α : Type} {H : Type} {enc : TypeId × Value → H} {P : Program} {r : Reach} {b0 : Nat} {W : World} {t e : TypeId} {v : Value} {d : DataW H} {ps : List MemPlace} {E : Enc α} {fine : α → Prop} (ht : P.underlying t = some (.slice e)) (hc : P.cellsOf e = E.size) (hs : 0 < E.size)
    (each : ∀ (a : Addr) (cs : List Value) (fuel : Nat) (y : DataW H × List MemPlace), cs.length = E.size → (∀ j, j < E.size → cs[j]? = hCell W.heap (a.add j)) → DataW.trod enc P W 0 (fun _ => true) true fuel e cs = some y → ∃ x : α, fine x ∧ cs = E.enc x)
    (hval : Value.okWide P W r b0 t v) (h : DataW.Trod enc P W 0 (fun _ => true) true t v d ps) :
    ∃ (s : Sl) (xs : List α), v = Sl.v s ∧ RdE E W.heap s.a xs ∧ s.n = xs.length ∧ s.n ≤ s.c ∧ ∀ x ∈ xs, fine x := by
  obtain ⟨fuel, hf⟩ := h
  rcases Go.Deep.open_slice ht hf with ⟨hcs, _⟩ | ⟨a, len, cap, m, n, D, Pl, hcs, _, hl, hm, hmm, _, hx⟩
  · exact ⟨Sl.mk none 0 0, [], one_cell ht hval hcs, Reads.nil _ _, rfl, Nat.le_refl _, by simp⟩
  · have hlm : len ≤ m := by rw [hmm]; simp; exact hl
    have each' : ∀ i, i < len → ∃ x : α, fine x ∧ ∀ j u, (E.enc x)[j]? = some u → hCell W.heap (a.add (i * E.size + j)) = some u := by
      intro i hi
      obtain ⟨cs', h1, h2⟩ := hx i (by omega)
      rw [hc] at h1
      obtain ⟨_, hlen, hcell⟩ := World.cells?_some h1
      have hcell' : ∀ j, j < E.size → cs'[j]? = hCell W.heap (a.add (i * E.size + j)) := fun j hj => by
        have := hcell j hj
        rw [Go.Deep.add_add] at this
        have h9 : hCell W.heap (a.add (i * E.size + j)) = cs'[j]? := this
        exact h9.symm
      obtain ⟨x, g1, g2⟩ := each (a.add (i * E.size)) cs' _ _ hlen (fun j hj => by rw [hcell' j hj, add_add]) h2
      refine ⟨x, g1, fun j u hu => ?_⟩
      have hj : j < E.size := by have := (List.getElem?_eq_some_iff.1 hu).1; rwa [E.len] at this
      rw [← hcell' j hj, g2]; exact hu
    obtain ⟨xs, h1, h2⟩ := collect (Q := fun i (x : α) => fine x ∧ ∀ j u, (E.enc x)[j]? = some u → hCell W.heap (a.add (i * E.size + j)) = some u) len each'
    refine ⟨Sl.mk (some a) len cap, xs, one_cell ht hval hcs, ?_, h1.symm, hl, fun x hx => ?_⟩
    · intro q u hu
      have hq : q < xs.length * E.size := by have := (List.getElem?_eq_some_iff.1 hu).1; rwa [Enc.all_length] at this
      have hdm : q = q / E.size * E.size + q % E.size := (Nat.div_add_mod' q E.size).symm
      have hmod := Nat.mod_lt q hs
      rw [hdm, Enc.all_get E xs (q / E.size) (q % E.size) hmod] at hu
      have hq7 : q / E.size < xs.length := Nat.div_lt_of_lt_mul (by rw [Nat.mul_comm]; exact hq)
      rw [List.getElem?_eq_getElem hq7] at hu
      refine ⟨a, rfl, ?_⟩
      have := (h2 (q / E.size) hq7).2 (q % E.size) u hu
      rwa [← hdm] at this
    · obtain ⟨i, hi, rfl⟩ := List.getElem_of_mem hx
      exact (h2 i hi).1

/-- A field of one cell of a struct. -/
theorem trod_field {H : Type} {enc : TypeId × Value → H} {P : Program} {W : World} {t : TypeId} {fs : Array Field} {fields : List (TypeId × Nat)} {fuel : Nat} {cs : List Value} {y : DataW H × List MemPlace} (hst : P.underlying t = some (.struct fs)) (hfs : fs.toList.map (fun f => (f.type, f.offset)) = fields)
    (h : DataW.trod enc P W 0 (fun _ => true) true fuel t cs = some y) : ∃ k : Nat, ∀ (j : Nat) (t : TypeId) (o : Nat), fields[j]? = some (t, o) → ∃ y, DataW.trod enc P W 0 (fun _ => true) true k t ((cs.drop o).take (P.cellsOf t)) = some y := by
  obtain ⟨ys, k, _, _, _, hyl, hfd⟩ := DataW.trod_struct hst h
  refine ⟨k, fun j t o hj => ?_⟩
  rw [← hfs, List.getElem?_map] at hj
  obtain ⟨f, hfj, hfe⟩ := Option.map_eq_some_iff.1 hj
  simp only [Prod.mk.injEq] at hfe
  obtain ⟨rfl, rfl⟩ := hfe
  have hfj' : fs[j]? = some f := by simpa using hfj
  have hjs : j < ys.length := by rw [hyl]; exact (Array.getElem?_eq_some_iff.1 hfj').1
  have := hfd j f hfj'
  rw [List.getElem?_eq_getElem hjs] at this
  exact ⟨_, this⟩

end Go.Proofs.YtjjfngnokbboeaaDoor
