/-
  ManifestBack: for every input the law returns true, and its arguments read as before; the laid variables are laid as the program's text lays them. No condition beside that.
-/
import Derived.LaidHandle
import Derived.LaidLaws
import Derived.LaidMore
import Derived.MakeChecks
import Derived.OpenShut
import Derived.SevenTiedAt
import Derived.Stop.Joined
import Derived.Test.YtjjfngnokbboeaaDoorCards
import Derived.Test.YtjjfngnokbboeaaDoorRows
import Derived.Test.YtjjfngnokbboeaaDoorTie
import Derived.Test.YtjjfngnokbboeaaDoorJ43
import Derived.Test.YtjjfngnokbboeaaDoorFxh
import Derived.Test.YtjjfngnokbboeaaDoorFxn
import Derived.Test.YtjjfngnokbboeaaDoorFxt
/-
  What the given statements on manifests share: what is laid, and how their arguments are opened.
-/
namespace Go.Proofs.YtjjfngnokbboeaaDoor
open Go.ChangeShapes Go.WideShapes Go.ChangeAt Go.RowKit

theorem pprog_own : ownKnob Tryd.prog.godebug = none := by kernel_rfl
theorem pprog_laidOut : laidOutB Tryd.prog = true := by kernel_rfl
def laidM : List (String × DataW Unit) := [("fathom/page.steps", Rows.laid_fathom_page_steps), ("bytes.ErrTooLarge", Rows.laid_bytes_ErrTooLarge)]
def litS : List (DataW Unit) := stepsL.map fun b => .lit (.int .u32 (b.toNat : Int))
theorem litS_eq : (Rows.laid_fathom_page_steps : DataW Unit) = .agg litS := by rfl
theorem gl_of_laid {W : World} (h : laidMetH Tryd.prog laidM W) : Gl W.heap := by
  rw [MakeChecks.laidMetH_plain _ _ _ (by kernel_rfl)] at h
  obtain ⟨ps, ⟨g0, t0, cs0, f0, p0, q0, hg0, ht0, hv0, hd0, _, _⟩, _, _⟩ := h
  obtain rfl := Option.some.inj ((show Tryd.prog.globalNamed "fathom/page.steps" = some gSteps by kernel_rfl).symm.trans hg0)
  obtain rfl := Option.some.inj ((show (Tryd.prog.globals[gSteps]?).map (·.type) = some 134 by kernel_rfl).symm.trans ht0)
  obtain ⟨xs, m, _, hx, hlen, hn, hel⟩ := DataW.trod_array (n := 16) (e := 122) (by kernel_rfl) hd0
  have hlit : litS = xs.map (·.1) := by
    have h1 : (Rows.laid_fathom_page_steps : DataW Unit) = .agg (xs.map (·.1)) := (Prod.mk.inj hx).1
    rw [litS_eq] at h1
    exact DataW.agg.inj h1
  intro i hi
  have hi' := hel i hi
  rw [show Tryd.prog.cellsOf 122 = 1 by kernel_rfl, Nat.mul_one] at hi'
  have hil : i < xs.length := by omega
  rw [List.getElem?_eq_getElem hil] at hi'
  obtain ⟨k, e1, e2, _⟩ := DataW.trod_int (k := .u32) (by kernel_rfl) hi'
  have hk : litS[i]? = some (.lit (.int .u32 k)) := by rw [hlit, List.getElem?_map, List.getElem?_eq_getElem hil, e2]; rfl
  unfold litS at hk
  rw [List.getElem?_map] at hk
  obtain ⟨b, hb, eb⟩ := Option.map_eq_some_iff.1 hk
  have ek : k = (b.toNat : Int) := by
    have := eb
    simp only [DataW.lit.injEq, Lit.int.injEq, true_and] at this
    exact this.symm
  have hgd : stepsL.getD i 0#32 = b := by simp [List.getD, hb]
  rw [hgd, ← ek]
  have hc := World.var?_cell hg0 hv0 i
  have hcs : cs0[i]? = some (.int .u32 k) := by
    have h2 : ((cs0.toList.drop i).take 1)[0]? = some (Value.int .u32 k) := by rw [e1]; rfl
    rw [List.getElem?_take, if_pos (by decide), List.getElem?_drop, Nat.add_zero] at h2
    simpa using h2
  rw [hcs] at hc
  exact hc
theorem door_met (os : Os) (args : Array Value) : laidMetH Tryd.prog laidM ((World.doorLaid Tryd.prog 400 os).forCall (fun _ _ => 0) ⟨#[], args, []⟩).memory :=
  laidMetH_of_parts3 (fuel := 8) (laidMet_of_run' 8 (by kernel_rfl) (by kernel_rfl)) (by kernel_rfl) (by kernel_rfl)

/-- A field: a slice of structs. -/
theorem cells_structs {α : Type} {H : Type} {enc : TypeId × Value → H} {P : Program} {W : World} {t e : TypeId} {cs0 : List Value} {y0 : DataW H × List MemPlace} {E : Enc α} {fine : α → Prop} {fuel0 : Nat} (ht : P.underlying t = some (.slice e)) (hc : P.cellsOf e = E.size) (hs : 0 < E.size)
    (each : ∀ (a : Addr) (cs : List Value) (fuel : Nat) (y : DataW H × List MemPlace), cs.length = E.size → (∀ j, j < E.size → cs[j]? = hCell W.heap (a.add j)) → DataW.trod enc P W 0 (fun _ => true) true fuel e cs = some y → ∃ x : α, fine x ∧ cs = E.enc x)
    (hf : DataW.trod enc P W 0 (fun _ => true) true fuel0 t cs0 = some y0) :
    ∃ (s : Sl) (xs : List α), cs0 = [Sl.v s] ∧ RdE E W.heap s.a xs ∧ s.n = xs.length ∧ s.n ≤ s.c ∧ ∀ x ∈ xs, fine x := by
  rcases Go.Deep.open_slice ht hf with ⟨hcs, _⟩ | ⟨a, len, cap, m, n, D, Pl, hcs, _, hl, hm, hmm, _, hx⟩
  · exact ⟨Sl.mk none 0 0, [], hcs, Reads.nil _ _, rfl, Nat.le_refl _, by simp⟩
  · have hlm : len ≤ m := by rw [hmm]; simp; exact hl
    have each' : ∀ i, i < len → ∃ x : α, fine x ∧ ∀ j u, (E.enc x)[j]? = some u → hCell W.heap (a.add (i * E.size + j)) = some u := by
      intro i hi
      obtain ⟨cs', h1, h2⟩ := hx i (by omega)
      rw [hc] at h1
      obtain ⟨_, hlen, hcell⟩ := World.cells?_some h1
      have hcell' : ∀ j, j < E.size → cs'[j]? = hCell W.heap (a.add (i * E.size + j)) := fun j hj => by
        have := hcell j hj
        rw [Go.Deep.add_add] at this
        have h9 : hCell W.heap (a.add (i * E.size + j)) = cs'[j]? := this
        exact h9.symm
      obtain ⟨x, g1, g2⟩ := each (a.add (i * E.size)) cs' _ _ hlen (fun j hj => by rw [hcell' j hj, add_add]) h2
      refine ⟨x, g1, fun j u hu => ?_⟩
      have hj : j < E.size := by have := (List.getElem?_eq_some_iff.1 hu).1; rwa [E.len] at this
      rw [← hcell' j hj, g2]; exact hu
    obtain ⟨xs, h1, h2⟩ := collect (Q := fun i (x : α) => fine x ∧ ∀ j u, (E.enc x)[j]? = some u → hCell W.heap (a.add (i * E.size + j)) = some u) len each'
    refine ⟨Sl.mk (some a) len cap, xs, hcs, ?_, h1.symm, hl, fun x hx => ?_⟩
    · intro q u hu
      have hq : q < xs.length * E.size := by have := (List.getElem?_eq_some_iff.1 hu).1; rwa [Enc.all_length] at this
      have hdm : q = q / E.size * E.size + q % E.size := (Nat.div_add_mod' q E.size).symm
      have hmod := Nat.mod_lt q hs
      rw [hdm, Enc.all_get E xs (q / E.size) (q % E.size) hmod] at hu
      have hq7 : q / E.size < xs.length := Nat.div_lt_of_lt_mul (by rw [Nat.mul_comm]; exact hq)
      rw [List.getElem?_eq_getElem hq7] at hu
      refine ⟨a, rfl, ?_⟩
      have := (h2 (q / E.size) hq7).2 (q % E.size) u hu
      rwa [← hdm] at this
    · obtain ⟨i, hi, rfl⟩ := List.getElem_of_mem hx
      exact (h2 i hi).1
def svdFields : List (TypeId × Nat) := [(ty_string, 0), (ty_string, 1), (ty_int, 2)]
theorem svd_fields : ∃ fs, Tryd.prog.underlying ty_api_Saved = some (.struct fs) ∧ fs.toList.map (fun f => (f.type, f.offset)) = svdFields := by
  have hb : (match Tryd.prog.underlying ty_api_Saved with | some (.struct fs) => (fs.toList.map (fun f => (f.type, f.offset))) == svdFields | _ => false) = true := by kernel_rfl
  split at hb
  · rename_i fs q; exact ⟨fs, q, by simpa using hb⟩
  · cases hb
def mfFields : List (TypeId × Nat) := [(ty_uint8, 0), (ty_int, 1), (ty_string, 2), (ty_string, 3), (ty_sl_api_Saved, 4)]
theorem mf_fields : ∃ fs, Tryd.prog.underlying ty_api_Manifest = some (.struct fs) ∧ fs.toList.map (fun f => (f.type, f.offset)) = mfFields := by
  have hb : (match Tryd.prog.underlying ty_api_Manifest with | some (.struct fs) => (fs.toList.map (fun f => (f.type, f.offset))) == mfFields | _ => false) = true := by kernel_rfl
  split at hb
  · rename_i fs q; exact ⟨fs, q, by simpa using hb⟩
  · cases hb
set_option maxRecDepth 100000 in
/-- An argument: a manifest. -/
theorem open_mf {H : Type} {enc : TypeId × Value → H} {r : Reach} {b0 : Nat} {W : World} {v : Value} {d : DataW H} {ps : List MemPlace}
    (hval : Value.okWide Tryd.prog W r b0 ty_api_Manifest v) (h : DataW.Trod enc Tryd.prog W 0 (fun _ => true) true ty_api_Manifest v d ps) :
    ∃ (m : Mf) (rs : Sl), v = .agg #[(.int .u8 m.opts), (.int .i64 m.next), (.string m.input), (.string m.terms), rs.v] ∧ Rels W.heap rs m.rels ∧ 0 ≤ m.opts ∧ m.opts < 256 ∧ rs.n ≤ rs.c := by
  obtain ⟨fs, hst, hfs⟩ := mf_fields
  obtain ⟨cs, rfl, hsz⟩ := okWide_struct hst hval
  rw [show Tryd.prog.cellsOf ty_api_Manifest = 5 by kernel_rfl] at hsz
  obtain ⟨fuel, hf⟩ := h
  obtain ⟨k, fld⟩ := trod_field hst hfs hf
  have c1 : ∀ t ∈ ([ty_uint8, ty_int, ty_string, ty_sl_api_Saved] : List TypeId), Tryd.prog.cellsOf t = 1 := by
    have hb : ([ty_uint8, ty_int, ty_string, ty_sl_api_Saved] : List TypeId).all (fun t => Nat.beq (Tryd.prog.cellsOf t) 1) = true := by kernel_rfl
    intro t ht
    exact Nat.eq_of_beq_eq_true (List.all_eq_true.1 hb t ht)
  have hcl : (Value.agg cs).cells.toList.length = 5 := by simpa [Value.cells] using hsz
  have hce : (Value.agg cs).cells = cs := rfl
  obtain ⟨v0, v1, v2, v3, v4, hcs⟩ : ∃ v0 v1 v2 v3 v4, cs.toList = [v0, v1, v2, v3, v4] := by
    match hq : cs.toList, (by rw [hce] at hcl; exact hcl : cs.toList.length = 5) with
    | [v0, v1, v2, v3, v4], _ => exact ⟨v0, v1, v2, v3, v4, rfl⟩
  rw [hce, hcs] at fld
  obtain ⟨y0, g0⟩ := fld 0 ty_uint8 0 rfl
  obtain ⟨y1, g1⟩ := fld 1 ty_int 1 rfl
  obtain ⟨y2, g2⟩ := fld 2 ty_string 2 rfl
  obtain ⟨y3, g3⟩ := fld 3 ty_string 3 rfl
  obtain ⟨y4, g4⟩ := fld 4 ty_sl_api_Saved 4 rfl
  rw [c1 _ (by simp)] at g0 g1 g2 g3 g4
  obtain ⟨x0, e0, _, w0⟩ := DataW.trod_int (k := .u8) (by kernel_rfl) g0
  obtain ⟨x1, e1, _⟩ := DataW.trod_int (k := .i64) (by kernel_rfl) g1
  obtain ⟨x2, e2, _⟩ := DataW.trod_string (by kernel_rfl) g2
  obtain ⟨x3, e3, _⟩ := DataW.trod_string (by kernel_rfl) g3
  obtain ⟨s, xs, e4, hrd, hn, hcap, _⟩ := cells_structs (E := ESv) (fine := fun _ => True) (e := ty_api_Saved) (by kernel_rfl) (by kernel_rfl) (by decide) (by
    intro a cs fuel y hlen _ hy
    obtain ⟨fs, hst, hfs⟩ := svd_fields
    obtain ⟨k, fld⟩ := trod_field hst hfs hy
    have c1 : ∀ t ∈ ([ty_int, ty_string] : List TypeId), Tryd.prog.cellsOf t = 1 := by
      have hb : ([ty_int, ty_string] : List TypeId).all (fun t => Nat.beq (Tryd.prog.cellsOf t) 1) = true := by kernel_rfl
      intro t ht
      exact Nat.eq_of_beq_eq_true (List.all_eq_true.1 hb t ht)
    match cs, hlen with
    | [v0, v1, v2], _ =>
      obtain ⟨y0, g0⟩ := fld 0 ty_string 0 rfl
      obtain ⟨y1, g1⟩ := fld 1 ty_string 1 rfl
      obtain ⟨y2, g2⟩ := fld 2 ty_int 2 rfl
      rw [c1 _ (by simp)] at g0 g1 g2
      obtain ⟨x0, e0, _⟩ := DataW.trod_string (by kernel_rfl) g0
      obtain ⟨x1, e1, _⟩ := DataW.trod_string (by kernel_rfl) g1
      obtain ⟨x2, e2, _⟩ := DataW.trod_int (k := .i64) (by kernel_rfl) g2
      simp at e0 e1 e2
      subst e0 e1 e2
      exact ⟨⟨x0, x1, x2⟩, trivial, rfl⟩) g4
  simp at e0 e1 e2 e3 e4
  subst e0 e1 e2 e3 e4
  obtain ⟨w1, w2⟩ := fits_u8 w0
  refine ⟨⟨x0, x1, x2, x3, xs⟩, s, ?_, ⟨hrd, hn⟩, w1, w2, hcap⟩
  congr 1
  rw [← Array.toList_inj, hcs]
/-- An argument: bytes. -/
theorem byts_of {W : World} {s : Sl} {l : List Int} (h : Ints .u8 W.heap s l) (hw : ∀ x ∈ l, (Lit.int .u8 x).wf = true) : ∃ b : List UInt8, Byts W.heap s b := by
  refine ⟨l.map fun x => UInt8.ofNat x.toNat, ?_⟩
  have e : u8i (l.map fun x => UInt8.ofNat x.toNat) = l := by
    unfold u8i
    rw [List.map_map]
    have : ∀ x ∈ l, ((fun x : UInt8 => (x.toNat : Int)) ∘ fun x : Int => UInt8.ofNat x.toNat) x = x := by
      intro x hx
      obtain ⟨w1, w2⟩ := fits_u8 (hw x hx)
      simp only [Function.comp]
      rw [UInt8.toNat_ofNat']; omega
    rw [List.map_congr_left this]; simp
  show Ints .u8 W.heap s (u8i _)
  rw [e]; exact h
end Go.Proofs.YtjjfngnokbboeaaDoor

/-
  ManifestBack: for every input the law returns true, and its arguments read as before; the laid variables are laid as the program's text lays them. No condition beside that.
-/
namespace Go.Proofs.YtjjfngnokbboeaaDoor
open Go.ChangeShapes Go.WideShapes Go.ChangeAt Go.RowKit

set_option maxRecDepth 100000 in
theorem manifestBack_lifted (os : Os) (started : os.Started) (H : Type) (enc : TypeId × Value → H) :
    ReturnsInHanded {} Tryd.checked os 4 .any (fun w args => (Rows.manifestBackSpec.pre enc Tryd.prog Tryd.f4 [] false w args ∧ laidMetH Tryd.prog laidM w) ∧ sizedMet enc Tryd.prog Tryd.f4 (OpenSpec.ofChange Rows.manifestBackSpec) false w args)
      (Rows.manifestBackSpec.post enc Tryd.prog Tryd.f4 false true false false) := by
  refine returnsInHanded_of_change_and (C := Tryd.checked) (X := fun w _ => laidMetH Tryd.prog laidM w) (fun _ _ _ hh h => h.of_heap hh) pprog_own started (by kernel_rfl) Tryd.func4
    (ChangeSpec.witness_shaped (enc := enc) (C := Tryd.checked) (os := os) (X := fun w _ => laidMetH Tryd.prog laidM w) false (World.doorLaid Tryd.prog 400 os) #[.agg #[.int .u8 0, .int .i64 0, .string ByteArray.empty, .string ByteArray.empty, .slice none 0 0], .slice none 0 0] 8 rfl (World.shaped_of_RefB (by kernel_rfl) (by kernel_rfl)) (by kernel_rfl) (by kernel_rfl) (by kernel_rfl) (door_met os _)) ?_
  intro W base args ds gs before hval0 hW _ _ hL _
  have hval : ∀ (j : Nat) t v, Tryd.f4.params[j]? = some t → args[j]? = some v → Value.okWide Tryd.prog W .any base t v := hval0
  have hW' := hW
  obtain ⟨p, q, hA0, hV, rfl, hfz, hnd⟩ := hW
  have hA : DataW.TrodAll enc Tryd.prog W 0 (fun _ => true) true Tryd.f4.params.toList args.toList ds p := hA0
  rw [Tryd.params4] at hA hval
  obtain ⟨v0, v1, d0, d1, p0, p1, rfl, rfl, rfl, h0, h1⟩ := trodAll_two hA
  obtain ⟨rfl, rfl⟩ := trodVars_none hV
  obtain ⟨m, rs, rfl, hr, ho1, ho2, _⟩ := open_mf (hval 0 ty_api_Manifest v0 rfl rfl) h0
  obtain ⟨b, zs, rfl, ib, cb, wb⟩ := open_sl_ints (k := .u8) (e := ty_uint8) (by kernel_rfl) (by kernel_rfl) (by kernel_rfl) (hval 1 ty_sl_uint8 v1 rfl rfl) h1
  obtain ⟨l, hb⟩ := byts_of ib wb
  have hspec := ManifestBack_ok (m := m) (rs := rs) (b := b) (l := l) (H := W.heap) (K := fun b H' => b = true ∧ Ext W.heap H') hr ⟨ho1, ho2⟩ hb cb (gl_of_laid hL) (fun H' e => ⟨rfl, e⟩)
  refine (hspec W rfl).mono fun e W' ⟨v, he, ⟨x, hx, hb, hext⟩, hal⟩ => ?_
  subst he; subst hx; subst hb
  exact ⟨_, rfl, law_post pprog_laidOut (by decide +kernel) rfl (by kernel_rfl) rfl rfl rfl rfl hW' hext hal⟩

theorem manifestBack_row : Rows.ManifestBackSaid :=
  OpenClaim.holds_of_wide 4 Tryd.f4 rfl rfl rfl rfl rfl rfl rfl ⟨rfl, rfl, rfl, rfl, rfl⟩ rfl rfl rfl rfl rfl (by kernel_rfl) Tryd.func4 (by kernel_rfl)
    (of_decide_eq_true (by kernel_rfl)) (by unfold Func.isWrapper; first | (rw [if_pos (by decide +kernel)]; kernel_rfl) | (rw [if_neg (by decide +kernel)]; exact ⟨rfl, rfl⟩))
    (fun os started H enc _ => manifestBack_lifted os started H enc)

/-- The card: the laid variables tied to the program's text. -/
theorem manifestBack_holds : Rows.ManifestBackCardSaid :=
  Claim7.holds_tied_plain_at .later [] [.data, .sentinel] true _ false
    manifestBack_row (fun _ h => by cases h) (by kernel_rfl) (fun _ h => by cases h) manifestBack_row_tie rfl ⟨rfl, rfl⟩ (by kernel_rfl) rfl
    (fun f fn hf hfn => by
      obtain rfl : f = 4 := Option.some.inj ((show Tryd.prog.funcNamed "fathom/fathomlaw28.ManifestBack" = some 4 by kernel_rfl).symm.trans hf) |>.symm
      obtain rfl : fn = Tryd.f4 := (Option.some.inj (Tryd.func4.symm.trans hfn)).symm
      exact ⟨by kernel_rfl, fun j t ht => by
        rw [Tryd.params4] at ht
        have hm : t ∈ [ty_api_Manifest, ty_sl_uint8] := by simpa using Array.mem_of_getElem? ht
        have hall : ([ty_api_Manifest, ty_sl_uint8].all fun u => !Tryd.prog.wantsStandIn u) = true := by kernel_rfl
        exact (show Tryd.prog.wantsStandIn t = false by simpa using List.all_eq_true.1 hall t hm)⟩)
    (by kernel_rfl)
#print axioms manifestBack_holds
end Go.Proofs.YtjjfngnokbboeaaDoor
