/-
  ManifestKnown: the law returns true; the laid variables are laid as the program's text lays them. No condition beside that.
-/
import Derived.LaidHandle
import Derived.LaidLaws
import Derived.LaidMore
import Derived.MakeChecks
import Derived.OpenShut
import Derived.SevenTiedAt
import Derived.Stop.Joined
import Derived.Test.YtjjfngnokbboeaaDoorCards
import Derived.Test.YtjjfngnokbboeaaDoorRows
import Derived.Test.YtjjfngnokbboeaaDoorTie
import Derived.Test.YtjjfngnokbboeaaDoorDkt
import Derived.Test.YtjjfngnokbboeaaDoorDrd
import Derived.Test.YtjjfngnokbboeaaDoorJ43
import Derived.Test.YtjjfngnokbboeaaDoorFxh
import Derived.Test.YtjjfngnokbboeaaDoorFxn
import Derived.Test.YtjjfngnokbboeaaDoorFxt
/-
  What the given statements on manifests share: what is laid, and how their arguments are opened.
-/
namespace Go.Proofs.YtjjfngnokbboeaaDoor
open Go.ChangeShapes Go.WideShapes Go.ChangeAt Go.RowKit

theorem pprog_own : ownKnob Tryd.prog.godebug = none := by kernel_rfl
theorem pprog_laidOut : laidOutB Tryd.prog = true := by kernel_rfl
def laidM : List (String × DataW Unit) := [("fathom/page.steps", Rows.laid_fathom_page_steps), ("bytes.ErrTooLarge", Rows.laid_bytes_ErrTooLarge)]
def litS : List (DataW Unit) := stepsL.map fun b => .lit (.int .u32 (b.toNat : Int))
theorem litS_eq : (Rows.laid_fathom_page_steps : DataW Unit) = .agg litS := by rfl
theorem gl_of_laid {W : World} (h : laidMetH Tryd.prog laidM W) : Gl W.heap := by
  rw [MakeChecks.laidMetH_plain _ _ _ (by kernel_rfl)] at h
  obtain ⟨ps, ⟨g0, t0, cs0, f0, p0, q0, hg0, ht0, hv0, hd0, _, _⟩, _, _⟩ := h
  obtain rfl := Option.some.inj ((show Tryd.prog.globalNamed "fathom/page.steps" = some gSteps by kernel_rfl).symm.trans hg0)
  obtain rfl := Option.some.inj ((show (Tryd.prog.globals[gSteps]?).map (·.type) = some 134 by kernel_rfl).symm.trans ht0)
  obtain ⟨xs, m, _, hx, hlen, hn, hel⟩ := DataW.trod_array (n := 16) (e := 122) (by kernel_rfl) hd0
  have hlit : litS = xs.map (·.1) := by
    have h1 : (Rows.laid_fathom_page_steps : DataW Unit) = .agg (xs.map (·.1)) := (Prod.mk.inj hx).1
    rw [litS_eq] at h1
    exact DataW.agg.inj h1
  intro i hi
  have hi' := hel i hi
  rw [show Tryd.prog.cellsOf 122 = 1 by kernel_rfl, Nat.mul_one] at hi'
  have hil : i < xs.length := by omega
  rw [List.getElem?_eq_getElem hil] at hi'
  obtain ⟨k, e1, e2, _⟩ := DataW.trod_int (k := .u32) (by kernel_rfl) hi'
  have hk : litS[i]? = some (.lit (.int .u32 k)) := by rw [hlit, List.getElem?_map, List.getElem?_eq_getElem hil, e2]; rfl
  unfold litS at hk
  rw [List.getElem?_map] at hk
  obtain ⟨b, hb, eb⟩ := Option.map_eq_some_iff.1 hk
  have ek : k = (b.toNat : Int) := by
    have := eb
    simp only [DataW.lit.injEq, Lit.int.injEq, true_and] at this
    exact this.symm
  have hgd : stepsL.getD i 0#32 = b := by simp [List.getD, hb]
  rw [hgd, ← ek]
  have hc := World.var?_cell hg0 hv0 i
  have hcs : cs0[i]? = some (.int .u32 k) := by
    have h2 : ((cs0.toList.drop i).take 1)[0]? = some (Value.int .u32 k) := by rw [e1]; rfl
    rw [List.getElem?_take, if_pos (by decide), List.getElem?_drop, Nat.add_zero] at h2
    simpa using h2
  rw [hcs] at hc
  exact hc
theorem door_met (os : Os) (args : Array Value) : laidMetH Tryd.prog laidM ((World.doorLaid Tryd.prog 400 os).forCall (fun _ _ => 0) ⟨#[], args, []⟩).memory :=
  laidMetH_of_parts3 (fuel := 8) (laidMet_of_run' 8 (by kernel_rfl) (by kernel_rfl)) (by kernel_rfl) (by kernel_rfl)

/-- A field: a slice of structs. -/
theorem cells_structs {α : Type} {H : Type} {enc : TypeId × Value → H} {P : Program} {W : World} {t e : TypeId} {cs0 : List Value} {y0 : DataW H × List MemPlace} {E : Enc α} {fine : α → Prop} {fuel0 : Nat} (ht : P.underlying t = some (.slice e)) (hc : P.cellsOf e = E.size) (hs : 0 < E.size)
    (each : ∀ (a : Addr) (cs : List Value) (fuel : Nat) (y : DataW H × List MemPlace), cs.length = E.size → (∀ j, j < E.size → cs[j]? = hCell W.heap (a.add j)) → DataW.trod enc P W 0 (fun _ => true) true fuel e cs = some y → ∃ x : α, fine x ∧ cs = E.enc x)
    (hf : DataW.trod enc P W 0 (fun _ => true) true fuel0 t cs0 = some y0) :
    ∃ (s : Sl) (xs : List α), cs0 = [Sl.v s] ∧ RdE E W.heap s.a xs ∧ s.n = xs.length ∧ s.n ≤ s.c ∧ ∀ x ∈ xs, fine x := by
  rcases Go.Deep.open_slice ht hf with ⟨hcs, _⟩ | ⟨a, len, cap, m, n, D, Pl, hcs, _, hl, hm, hmm, _, hx⟩
  · exact ⟨Sl.mk none 0 0, [], hcs, Reads.nil _ _, rfl, Nat.le_refl _, by simp⟩
  · have hlm : len ≤ m := by rw [hmm]; simp; exact hl
    have each' : ∀ i, i < len → ∃ x : α, fine x ∧ ∀ j u, (E.enc x)[j]? = some u → hCell W.heap (a.add (i * E.size + j)) = some u := by
      intro i hi
      obtain ⟨cs', h1, h2⟩ := hx i (by omega)
      rw [hc] at h1
      obtain ⟨_, hlen, hcell⟩ := World.cells?_some h1
      have hcell' : ∀ j, j < E.size → cs'[j]? = hCell W.heap (a.add (i * E.size + j)) := fun j hj => by
        have := hcell j hj
        rw [Go.Deep.add_add] at this
        have h9 : hCell W.heap (a.add (i * E.size + j)) = cs'[j]? := this
        exact h9.symm
      obtain ⟨x, g1, g2⟩ := each (a.add (i * E.size)) cs' _ _ hlen (fun j hj => by rw [hcell' j hj, add_add]) h2
      refine ⟨x, g1, fun j u hu => ?_⟩
      have hj : j < E.size := by have := (List.getElem?_eq_some_iff.1 hu).1; rwa [E.len] at this
      rw [← hcell' j hj, g2]; exact hu
    obtain ⟨xs, h1, h2⟩ := collect (Q := fun i (x : α) => fine x ∧ ∀ j u, (E.enc x)[j]? = some u → hCell W.heap (a.add (i * E.size + j)) = some u) len each'
    refine ⟨Sl.mk (some a) len cap, xs, hcs, ?_, h1.symm, hl, fun x hx => ?_⟩
    · intro q u hu
      have hq : q < xs.length * E.size := by have := (List.getElem?_eq_some_iff.1 hu).1; rwa [Enc.all_length] at this
      have hdm : q = q / E.size * E.size + q % E.size := (Nat.div_add_mod' q E.size).symm
      have hmod := Nat.mod_lt q hs
      rw [hdm, Enc.all_get E xs (q / E.size) (q % E.size) hmod] at hu
      have hq7 : q / E.size < xs.length := Nat.div_lt_of_lt_mul (by rw [Nat.mul_comm]; exact hq)
      rw [List.getElem?_eq_getElem hq7] at hu
      refine ⟨a, rfl, ?_⟩
      have := (h2 (q / E.size) hq7).2 (q % E.size) u hu
      rwa [← hdm] at this
    · obtain ⟨i, hi, rfl⟩ := List.getElem_of_mem hx
      exact (h2 i hi).1
def svdFields : List (TypeId × Nat) := [(ty_string, 0), (ty_string, 1), (ty_int, 2)]
theorem svd_fields : ∃ fs, Tryd.prog.underlying ty_api_Saved = some (.struct fs) ∧ fs.toList.map (fun f => (f.type, f.offset)) = svdFields := by
  have hb : (match Tryd.prog.underlying ty_api_Saved with | some (.struct fs) => (fs.toList.map (fun f => (f.type, f.offset))) == svdFields | _ => false) = true := by kernel_rfl
  split at hb
  · rename_i fs q; exact ⟨fs, q, by simpa using hb⟩
  · cases hb
def mfFields : List (TypeId × Nat) := [(ty_uint8, 0), (ty_int, 1), (ty_string, 2), (ty_string, 3), (ty_sl_api_Saved, 4)]
theorem mf_fields : ∃ fs, Tryd.prog.underlying ty_api_Manifest = some (.struct fs) ∧ fs.toList.map (fun f => (f.type, f.offset)) = mfFields := by
  have hb : (match Tryd.prog.underlying ty_api_Manifest with | some (.struct fs) => (fs.toList.map (fun f => (f.type, f.offset))) == mfFields | _ => false) = true := by kernel_rfl
  split at hb
  · rename_i fs q; exact ⟨fs, q, by simpa using hb⟩
  · cases hb
set_option maxRecDepth 100000 in
/-- An argument: a manifest. -/
theorem open_mf {H : Type} {enc : TypeId × Value → H} {r : Reach} {b0 : Nat} {W : World} {v : Value} {d : DataW H} {ps : List MemPlace}
    (hval : Value.okWide Tryd.prog W r b0 ty_api_Manifest v) (h : DataW.Trod enc Tryd.prog W 0 (fun _ => true) true ty_api_Manifest v d ps) :
    ∃ (m : Mf) (rs : Sl), v = .agg #[(.int .u8 m.opts), (.int .i64 m.next), (.string m.input), (.string m.terms), rs.v] ∧ Rels W.heap rs m.rels ∧ 0 ≤ m.opts ∧ m.opts < 256 ∧ rs.n ≤ rs.c := by
  obtain ⟨fs, hst, hfs⟩ := mf_fields
  obtain ⟨cs, rfl, hsz⟩ := okWide_struct hst hval
  rw [show Tryd.prog.cellsOf ty_api_Manifest = 5 by kernel_rfl] at hsz
  obtain ⟨fuel, hf⟩ := h
  obtain ⟨k, fld⟩ := trod_field hst hfs hf
  have c1 : ∀ t ∈ ([ty_uint8, ty_int, ty_string, ty_sl_api_Saved] : List TypeId), Tryd.prog.cellsOf t = 1 := by
    have hb : ([ty_uint8, ty_int, ty_string, ty_sl_api_Saved] : List TypeId).all (fun t => Nat.beq (Tryd.prog.cellsOf t) 1) = true := by kernel_rfl
    intro t ht
    exact Nat.eq_of_beq_eq_true (List.all_eq_true.1 hb t ht)
  have hcl : (Value.agg cs).cells.toList.length = 5 := by simpa [Value.cells] using hsz
  have hce : (Value.agg cs).cells = cs := rfl
  obtain ⟨v0, v1, v2, v3, v4, hcs⟩ : ∃ v0 v1 v2 v3 v4, cs.toList = [v0, v1, v2, v3, v4] := by
    match hq : cs.toList, (by rw [hce] at hcl; exact hcl : cs.toList.length = 5) with
    | [v0, v1, v2, v3, v4], _ => exact ⟨v0, v1, v2, v3, v4, rfl⟩
  rw [hce, hcs] at fld
  obtain ⟨y0, g0⟩ := fld 0 ty_uint8 0 rfl
  obtain ⟨y1, g1⟩ := fld 1 ty_int 1 rfl
  obtain ⟨y2, g2⟩ := fld 2 ty_string 2 rfl
  obtain ⟨y3, g3⟩ := fld 3 ty_string 3 rfl
  obtain ⟨y4, g4⟩ := fld 4 ty_sl_api_Saved 4 rfl
  rw [c1 _ (by simp)] at g0 g1 g2 g3 g4
  obtain ⟨x0, e0, _, w0⟩ := DataW.trod_int (k := .u8) (by kernel_rfl) g0
  obtain ⟨x1, e1, _⟩ := DataW.trod_int (k := .i64) (by kernel_rfl) g1
  obtain ⟨x2, e2, _⟩ := DataW.trod_string (by kernel_rfl) g2
  obtain ⟨x3, e3, _⟩ := DataW.trod_string (by kernel_rfl) g3
  obtain ⟨s, xs, e4, hrd, hn, hcap, _⟩ := cells_structs (E := ESv) (fine := fun _ => True) (e := ty_api_Saved) (by kernel_rfl) (by kernel_rfl) (by decide) (by
    intro a cs fuel y hlen _ hy
    obtain ⟨fs, hst, hfs⟩ := svd_fields
    obtain ⟨k, fld⟩ := trod_field hst hfs hy
    have c1 : ∀ t ∈ ([ty_int, ty_string] : List TypeId), Tryd.prog.cellsOf t = 1 := by
      have hb : ([ty_int, ty_string] : List TypeId).all (fun t => Nat.beq (Tryd.prog.cellsOf t) 1) = true := by kernel_rfl
      intro t ht
      exact Nat.eq_of_beq_eq_true (List.all_eq_true.1 hb t ht)
    match cs, hlen with
    | [v0, v1, v2], _ =>
      obtain ⟨y0, g0⟩ := fld 0 ty_string 0 rfl
      obtain ⟨y1, g1⟩ := fld 1 ty_string 1 rfl
      obtain ⟨y2, g2⟩ := fld 2 ty_int 2 rfl
      rw [c1 _ (by simp)] at g0 g1 g2
      obtain ⟨x0, e0, _⟩ := DataW.trod_string (by kernel_rfl) g0
      obtain ⟨x1, e1, _⟩ := DataW.trod_string (by kernel_rfl) g1
      obtain ⟨x2, e2, _⟩ := DataW.trod_int (k := .i64) (by kernel_rfl) g2
      simp at e0 e1 e2
      subst e0 e1 e2
      exact ⟨⟨x0, x1, x2⟩, trivial, rfl⟩) g4
  simp at e0 e1 e2 e3 e4
  subst e0 e1 e2 e3 e4
  obtain ⟨w1, w2⟩ := fits_u8 w0
  refine ⟨⟨x0, x1, x2, x3, xs⟩, s, ?_, ⟨hrd, hn⟩, w1, w2, hcap⟩
  congr 1
  rw [← Array.toList_inj, hcs]
/-- An argument: bytes. -/
theorem byts_of {W : World} {s : Sl} {l : List Int} (h : Ints .u8 W.heap s l) (hw : ∀ x ∈ l, (Lit.int .u8 x).wf = true) : ∃ b : List UInt8, Byts W.heap s b := by
  refine ⟨l.map fun x => UInt8.ofNat x.toNat, ?_⟩
  have e : u8i (l.map fun x => UInt8.ofNat x.toNat) = l := by
    unfold u8i
    rw [List.map_map]
    have : ∀ x ∈ l, ((fun x : UInt8 => (x.toNat : Int)) ∘ fun x : Int => UInt8.ofNat x.toNat) x = x := by
      intro x hx
      obtain ⟨w1, w2⟩ := fits_u8 (hw x hx)
      simp only [Function.comp]
      rw [UInt8.toNat_ofNat']; omega
    rw [List.map_congr_left this]; simp
  show Ints .u8 W.heap s (u8i _)
  rw [e]; exact h
end Go.Proofs.YtjjfngnokbboeaaDoor

/-
  Manifests committed on a disk that may crash, in plain words.
-/
namespace Go.Proofs.YtjjfngnokbboeaaDoor

/-- A disk that is up. -/
structure Upd (d : Dk) (fs : List Fl) (q : Nat) : Prop where
  files : d.files = fs
  down : d.down = false
  quota : d.quota = q
/-- A disk that has crashed. -/
structure Off (d : Dk) (fs : List Fl) (q : Nat) : Prop where
  files : d.files = fs
  down : d.down = true
  quota : d.quota = q
theorem Fine.upd {d : Dk} {fs : List Fl} {q : Nat} (h : Fine d fs q) : Upd d fs q := ⟨h.files, h.down, h.quota⟩
theorem Upd.crash {d : Dk} {fs : List Fl} {q : Nat} (h : Upd d fs q) (i k : Int) : Upd (d.setCrash i k) fs q := by
  unfold Dk.setCrash
  rw [if_neg (by rw [h.down]; simp)]
  exact ⟨h.files, h.down, h.quota⟩
theorem put_upd {d : Dk} {fs : List Fl} {q : Nat} {n : ByteArray} {b : List UInt8} (h : Upd d fs q) (hn : named n = true) (hno : ∀ g ∈ fs, g.name ≠ n) (hf : fs.length < 4096) (hq : usedL fs + (pieces (allM b)).length ≤ q) :
    (∃ pg : List Pg, pg.map (·.1) = (pieces (allM b)).map (sealP 3) ∧ Upd (d.putM n b).1 (fs ++ [⟨n, pg, []⟩]) q ∧ (d.putM n b).2 = 0) ∨
    (∃ rest, (rest = [] ∨ ∃ f' : Fl, rest = [f'] ∧ f'.name = n) ∧ Off (d.putM n b).1 (fs ++ rest) q ∧ (d.putM n b).2 = 4) := by
  have hx : d.idx n = none := by unfold Dk.idx; rw [h.files]; exact idx_absent hno
  have hl : ¬ (d.len n).2 = 0 := by
    unfold Dk.len Dk.open
    rw [if_neg (by rw [h.down]; simp), hx]; simp
  have hp : d.putM n b = d.make n b := by
    unfold Dk.putM Dk.clear
    rw [if_neg hl]; rfl
  obtain ⟨rest, h1, h2, h3⟩ := make_tail (n := n) (b := b) h.down hn (by rw [h.files]; exact hno) (by rw [h.files]; exact hf) (by rw [h.files, h.quota]; exact hq)
  rw [hp]
  rcases h3 with ⟨a1, a2, ⟨pg, a3, a4⟩, a5⟩ | ⟨a1, a2, _, a4⟩
  · exact .inl ⟨pg, a4, ⟨by rw [h1, h.files, a3], a2, h2.trans h.quota⟩, a1⟩
  · exact .inr ⟨rest, a4, ⟨by rw [h1, h.files], a2, h2.trans h.quota⟩, a1⟩
theorem erase_mid {a b : List Fl} {f : Fl} : (a ++ f :: b).eraseIdx a.length = a ++ b := by
  induction a with
  | nil => rfl
  | cons x a ih => rw [List.cons_append, List.length_cons, List.eraseIdx_cons_succ, ih]; rfl
theorem idx_mid {d : Dk} {a b : List Fl} {f : Fl} {n : ByteArray} (h : d.files = a ++ f :: b) (hn : f.name = n) (hno : ∀ g ∈ a, g.name ≠ n) : d.idx n = some a.length := by
  unfold Dk.idx
  rw [h, List.findIdx?_append, idx_absent hno, List.findIdx?_cons]
  simp [hn]
/-- A name is given anew over a file that stood there. -/
theorem rename_over {d : Dk} {a b : List Fl} {f g : Fl} {q : Nat} {n m : ByteArray} (h : Upd d (a ++ f :: (b ++ [g])) q) (hf : f.name = m) (hg : g.name = n) (hna : ∀ x ∈ a, x.name ≠ n ∧ x.name ≠ m) (hnb : ∀ x ∈ b, x.name ≠ n) (hm : named m = true) (hnm : n ≠ m) :
    (Upd (d.rename n m).1 (a ++ (b ++ [{ g with name := m }])) q ∧ (d.rename n m).2 = 0) ∨ (Off (d.rename n m).1 (a ++ f :: (b ++ [g])) q ∧ (d.rename n m).2 = 4) := by
  have i1 : ∀ t : Dk, t.files = a ++ f :: (b ++ [g]) → t.idx n = some (a ++ f :: b).length := fun t ht => by
    refine idx_last (f := g) (by rw [ht]; simp) hg ?_
    intro x hx
    rcases List.mem_append.1 hx with q | q
    · exact (hna x q).1
    · rcases List.mem_cons.1 q with q | q
      · rw [q, hf]; exact fun e => hnm e.symm
      · exact hnb x q
  unfold Dk.rename
  rw [if_neg (by rw [h.down]; simp), if_neg (by rw [hm]; simp), if_neg (by rw [i1 d h.files]; simp)]
  rcases d.step_res (fun t => if n.toList = m.toList then t else (t.drop m).setName n m) with ⟨t, t1, t2, t3, _, _, _, t7⟩ | ⟨q1, _⟩
  · rw [t7]
    simp only
    rw [if_neg fun q => hnm (ba_eq q)]
    have tf : t.files = a ++ f :: (b ++ [g]) := t1.trans h.files
    have hd : t.drop m = { t with files := a ++ (b ++ [g]) } := by
      unfold Dk.drop
      rw [idx_mid tf hf fun x hx => (hna x hx).2]
      simp only
      rw [tf, erase_mid]
    rw [hd]
    have i2 : ({ t with files := a ++ (b ++ [g]) } : Dk).idx n = some (a ++ b).length := by
      refine idx_last (f := g) (by simp) hg ?_
      intro x hx
      rcases List.mem_append.1 hx with q | q
      · exact (hna x q).1
      · exact hnb x q
    have hs : ({ t with files := a ++ (b ++ [g]) } : Dk).setName n m = { t with files := (a ++ (b ++ [g])).modify (a ++ b).length fun f => { f with name := m } } := by
      unfold Dk.setName; rw [i2]
    rw [hs]
    refine .inl ⟨⟨?_, t3.trans h.down, t2.trans h.quota⟩, trivial⟩
    show (a ++ (b ++ [g])).modify _ _ = _
    rw [← List.append_assoc, modify_tail, List.append_assoc]
  · rw [q1]
    exact .inr ⟨⟨h.files, rfl, h.quota⟩, rfl⟩
theorem getM_upd {d : Dk} {fs : List Fl} {q : Nat} {n : ByteArray} {b : List UInt8} {i : Nat} {f : Fl} (h : Upd d fs q) (hi : fs.findIdx? (fun f => f.name.toList == n.toList) = some i) (hf : fs[i]? = some f) (hp : f.pages.map (·.1) = (pieces (allM b)).map (sealP 3)) (hb : b.length < 18446744073709551616) : d.getM n = (b, 0) := by
  refine getM_of h.down (i := i) (by unfold Dk.idx; rw [h.files]; exact hi) ?_ hb
  rw [Dk.file_eq (by rw [h.files]; exact hf)]
  exact hp
theorem sweep_none {f : Option Mf} : ∀ (l : List (List UInt8)) (d : Dk), (∀ n ∈ l, keeps f n = true) → Dk.sweep f l d = (d, 0)
  | [], d, _ => rfl
  | n :: l, d, h => by
    rw [sweep_cons, if_pos (h n List.mem_cons_self)]
    exact sweep_none l d fun x hx => h x (List.mem_cons_of_mem _ hx)
theorem list_upd {d : Dk} {fs : List Fl} {q : Nat} (h : Upd d fs q) : d.list.Perm (fs.map fun f => f.name.data.toList) := by
  unfold Dk.list
  rw [if_neg (by rw [h.down]; simp), h.files]
  have : (fs.map fun f => f.name.toList) = fs.map fun f => f.name.data.toList := List.map_congr_left fun f _ => ByteArray.toList_eq _
  rw [this]
  exact List.mergeSort_perm _ _
/-- All that lies there is kept. -/
theorem recover_still {d : Dk} {fs : List Fl} {q : Nat} {m : Mf} (h : Upd d fs q) (hm : d.getM nmM = (encM m, 0)) (hy : mayM m = true) (ho : 0 ≤ m.opts ∧ m.opts < 256) (hk : ∀ g ∈ fs, keeps (some m) g.name.data.toList = true) : d.recover = ((m, true, 0), d) := by
  have hf : d.foundM = some m := by
    unfold Dk.foundM
    rw [hm, if_pos rfl]
    exact dec_enc hy ho
  have hs := sweep_none (f := some m) d.list d fun n hn => by
    obtain ⟨g, hg, e⟩ := List.mem_map.1 ((list_upd h).mem_iff.1 hn)
    rw [← e]; exact hk g hg
  unfold Dk.recover
  rw [hm, if_neg (by simp), hf, hs, if_neg (by simp)]
  rfl
theorem Off.restart {d : Dk} {fs : List Fl} {q : Nat} (h : Off d fs q) : Fine d.restart (fs.map d.after) q := by
  unfold Dk.restart
  rw [if_pos h.down]
  exact ⟨by rw [← h.files], rfl, rfl, h.quota⟩
theorem Upd.restart {d : Dk} {fs : List Fl} {q : Nat} (h : Upd d fs q) : d.restart = d := by
  unfold Dk.restart
  rw [if_neg (by rw [h.down]; simp)]
theorem after_synced (d : Dk) (n : ByteArray) (pg : List Pg) : d.after ⟨n, pg, []⟩ = ⟨n, pg, []⟩ := by
  unfold Dk.after; rfl
/-- A manifest found again on a disk that does not crash. -/
theorem recover_fine {d : Dk} {fs : List Fl} {q : Nat} {m : Mf} (h : Fine d fs q) (hd : (fs.map (·.name)).Nodup) (hm : d.getM nmM = (encM m, 0)) (hy : mayM m = true) (ho : 0 ≤ m.opts ∧ m.opts < 256) :
    d.recover.1 = (m, true, 0) ∧ Fine d.recover.2 (fs.filter fun g => keeps (some m) g.name.data.toList) q := by
  have hf : d.foundM = some m := by
    unfold Dk.foundM
    rw [hm, if_pos rfl]
    exact dec_enc hy ho
  obtain ⟨s1, s2⟩ := sweep_all (f := some m) h hd
  have hr : d.recover = ((m, true, 0), (Dk.sweep (some m) d.list d).1) := by
    unfold Dk.recover
    rw [hm, if_neg (by simp), hf, if_neg (by rw [s2]; simp)]
    rfl
  rw [hr]
  exact ⟨rfl, s1⟩
/-- A manifest is committed where there is none yet. -/
theorem commit_first {d : Dk} {fs : List Fl} {q : Nat} {m : Mf} (h : Fine d fs q) (hy : mayM m = true) (hno : ∀ g ∈ fs, g.name ≠ nmN ∧ g.name ≠ nmM) (hf : fs.length < 4096) (hq : usedL fs + (pieces (allM (encM m))).length ≤ q) :
    ∃ pg : List Pg, pg.map (·.1) = (pieces (allM (encM m))).map (sealP 3) ∧ Fine (d.commit m).1 (fs ++ [⟨nmM, pg, []⟩]) q ∧ (d.commit m).2 = 0 := by
  obtain ⟨pg, h1, h2, h3⟩ := put_fine (n := nmN) (b := encM m) h (by decide) (fun g hg => (hno g hg).1) hf hq
  obtain ⟨h4, h5⟩ := rename_fine (m := nmM) h2 rfl (fun g hg => (hno g hg).1) (by decide) (ne_of_data (by decide) : nmN ≠ nmM) (fun g hg => (hno g hg).2)
  have hc : d.commit m = (d.putM nmN (encM m)).1.rename nmN nmM := by
    unfold Dk.commit
    rw [if_neg (by rw [hy]; simp), if_neg (by rw [h3]; simp)]
  rw [hc]
  exact ⟨pg, h1, h4, h5⟩
/-- A manifest is committed over another, and there may be a crash. -/
theorem commit_over {d : Dk} {a b : List Fl} {f : Fl} {q : Nat} {m : Mf} (h : Upd d (a ++ f :: b) q) (hy : mayM m = true) (hfn : f.name = nmM) (hno : ∀ g ∈ a ++ b, g.name ≠ nmN ∧ g.name ≠ nmM) (hf : (a ++ f :: b).length < 4096) (hq : usedL (a ++ f :: b) + (pieces (allM (encM m))).length ≤ q) :
    (∃ pg : List Pg, pg.map (·.1) = (pieces (allM (encM m))).map (sealP 3) ∧ Upd (d.commit m).1 (a ++ (b ++ [⟨nmM, pg, []⟩])) q ∧ (d.commit m).2 = 0) ∨
    (∃ rest : List Fl, (rest = [] ∨ ∃ f', rest = [f'] ∧ f'.name = nmN) ∧ Off (d.commit m).1 (a ++ f :: b ++ rest) q ∧ (d.commit m).2 = 4) := by
  have nNM : nmN ≠ nmM := ne_of_data (by decide)
  have hn2 : ∀ g ∈ a ++ f :: b, g.name ≠ nmN := by
    intro g hg
    rcases List.mem_append.1 hg with q | q
    · exact (hno g (List.mem_append.2 (.inl q))).1
    · rcases List.mem_cons.1 q with q | q
      · rw [q, hfn]; exact fun e => nNM e.symm
      · exact (hno g (List.mem_append.2 (.inr q))).1
  rcases put_upd (n := nmN) (b := encM m) h (by decide) hn2 hf hq with ⟨pg, h1, h2, h3⟩ | ⟨rest, h1, h2, h3⟩
  · have hc : d.commit m = (d.putM nmN (encM m)).1.rename nmN nmM := by
      unfold Dk.commit
      rw [if_neg (by rw [hy]; simp), if_neg (by rw [h3]; simp)]
    rw [hc]
    have e : a ++ f :: b ++ [(⟨nmN, pg, []⟩ : Fl)] = a ++ f :: (b ++ [⟨nmN, pg, []⟩]) := by simp
    rw [e] at h2
    rcases rename_over (n := nmN) (m := nmM) h2 hfn rfl (fun x hx => hno x (List.mem_append.2 (.inl hx))) (fun x hx => (hno x (List.mem_append.2 (.inr hx))).1) (by decide) nNM with ⟨r1, r2⟩ | ⟨r1, r2⟩
    · exact .inl ⟨pg, h1, r1, r2⟩
    · rw [← e] at r1
      exact .inr ⟨[⟨nmN, pg, []⟩], .inr ⟨_, rfl, rfl⟩, r1, r2⟩
  · have hc : d.commit m = d.putM nmN (encM m) := by
      unfold Dk.commit
      rw [if_neg (by rw [hy]; simp), if_pos (by rw [h3]; simp)]
    rw [hc]
    exact .inr ⟨rest, h1, h2, h3⟩
end Go.Proofs.YtjjfngnokbboeaaDoor

/-
  ManifestKnown: the examples of the chapter: its pieces.
-/
namespace Go.Proofs.YtjjfngnokbboeaaDoor
open Go.MapKept

theorem strBB (a b : List UInt8) : strB a ++ strB b = strB (a ++ b) := by
  unfold strB
  apply ByteArray.ext
  simp [ByteArray.data_append]
theorem strB_extract (a : List UInt8) (n : Nat) : (strB a).extract 0 n = strB (a.take n) := by
  apply ByteArray.ext
  rw [ByteArray.data_extract]
  unfold strB
  apply Array.ext'
  simp
/-- So many letters. -/
theorem textN_ok {n : Nat} {H : Heap} {K : ByteArray → Heap → Prop} (hn : n ≤ 1024) (hK : K (strB (List.replicate n 97)) H) : fathomlaw28_text.sp (n : Int) H K := by
  refine fathomlaw28_text.of ?_
  unfold fathomlaw28_text.vc
  refine loop_upto 10 (fun k x A => A = H ∧ x = strB (List.replicate (2 ^ k) 97)) ⟨rfl, rfl⟩ ?_
  rintro k s A next hk ⟨rfl, rfl⟩ hnext
  have hsz : (strB (List.replicate (2 ^ k) 97)).size = 2 ^ k := by rw [strB_size]; simp
  have h7 : 2 ^ k ≤ 2 ^ 10 := Nat.pow_le_pow_right (by decide) hk
  rw [hsz]
  refine br_mk (fun hc => ?_) (fun hc => ?_)
  · have hc : 2 ^ k < n := by
      have : ((2 ^ k : Nat) : Int) < (n : Int) := by simpa using hc
      omega
    have hlt : k < 10 := by
      rcases Nat.lt_or_ge k 10 with h | h
      · exact h
      · have e : k = 10 := by omega
        subst e; omega
    refine ⟨by omega, hnext hlt _ _ ⟨rfl, ?_⟩⟩
    rw [strBB, List.replicate_append_replicate, Nat.pow_succ, Nat.mul_two]
  · have hge : n ≤ 2 ^ k := by
      have : ¬ ((2 ^ k : Nat) : Int) < (n : Int) := by simpa using hc
      omega
    refine ⟨⟨by omega, by omega⟩, ?_⟩
    rw [Int.toNat_natCast, strB_extract, List.take_replicate, Nat.min_eq_left hge]
    exact hK
/-- A manifest that is refused. -/
theorem bad_true {m : Mf} {rs : Sl} {H : Heap} {K : Bool → Heap → Prop} (h : Rels H rs m.rels) (hl : m.rels.length < 4611686018427387904) (ho : 0 ≤ m.opts ∧ m.opts < 256) (hy : mayM m = false) (hK : ∀ H', Ext H H' → K true H') :
    fathomlaw28_bad.sp m.opts m.next m.input m.terms rs H K := by
  refine fathomlaw28_bad.of ?_
  unfold fathomlaw28_bad.vc
  refine newC_rowT fun H1 s1 r1 e1 => ?_
  have r1' : RowT H1 H.size ty_api_Manifest (headM m.opts m.next m.input m.terms rs) := r1
  refine mf_ld r1' ?_
  refine Encode_ok (h.ext e1) hl ho (fun _ A' e => ?_) (fun hm => ?_)
  · exact hK A' (Mod.trans e1 e)
  · rw [hy] at hm; cases hm
/-- Bytes that the compiler laid: they are marked. -/
theorem marked_ok {b n c : Nat} {l : List UInt8} {H : Heap} {K : Sl → Heap → Prop} (h : RowB H b ty_uint8 l) (hn : n = l.length) (hK : ∀ H', Byts H' (Sl.mk (some ⟨b, 0, none⟩) n c) l → Mod (fun x => x = b) H H' → H'.size = H.size → K (Sl.mk (some ⟨b, 0, none⟩) n c) H') :
    doT cSl Tryd.prog (convert ty_sl_uint8 ty_sl_uint8 (.slice (some ⟨b, 0, none⟩) n c)) H K := by
  intro w hw
  subst hw
  have hu : Tryd.prog.underlying ty_sl_uint8 = some (.slice ty_uint8) := by kernel_rfl
  have he : Tryd.prog.underlying ty_uint8 = some (.int .u8) := by kernel_rfl
  have hs : (shape b).run Tryd.prog w = .ok (some (ty_uint8, (pgV l).toArray.size)) w := by
    unfold shape
    simp only [Sem.run, World.shape?]
    rw [show w.heap[b]? = _ from h]
  have hr : (convert ty_sl_uint8 ty_sl_uint8 (.slice (some ⟨b, 0, none⟩) n c)).run Tryd.prog w = .ok (.slice (some ⟨b, 0, none⟩) n c) (w.freeze ⟨b, (pgV l).toArray.size, none⟩ 1) := by
    unfold convert markStringish
    simp [run_underlying' hu, run_underlying' he, hs, freeze, Sem.run]
  have hf : (w.freeze ⟨b, (pgV l).toArray.size, none⟩ 1).heap[b]? = some (.cells (pgV l).toArray ty_uint8 ((pgV l).toArray.size, (pgV l).toArray.size + 1)) := by
    unfold World.freeze
    simp only [Nat.one_ne_zero, if_false]
    rw [Array.getElem?_modify, if_pos rfl, show w.heap[b]? = _ from h]
    rfl
  refine ⟨_, _, hr, ⟨Sl.mk (some ⟨b, 0, none⟩) n c, rfl, hK _ ⟨by simp [u8i]; exact hn, ?_⟩ ⟨?_, ?_⟩ ?_⟩, (.of_le rfl (Nat.le_refl _))⟩
  · intro i v hv
    rw [u8i_vals] at hv
    refine ⟨_, rfl, ?_⟩
    rw [add_lit0]
    exact hCell_of hf (by simpa using hv)
  · unfold World.freeze; simp
  · intro q _ hq
    unfold World.freeze
    simp only [Nat.one_ne_zero, if_false]
    rw [Array.getElem?_modify, if_neg (fun e => hq e.symm)]
  · unfold World.freeze; simp
end Go.Proofs.YtjjfngnokbboeaaDoor

/-
  ManifestCrash: a crash at any change of a commit: the plain law and the walk.
-/
namespace Go.Proofs.YtjjfngnokbboeaaDoor
open Go.MapKept

def nmIn : ByteArray := ByteArray.mk #[105, 110]
theorem pg_len {pg : List Pg} {b : List UInt8} (h : pg.map (·.1) = (pieces (allM b)).map (sealP 3)) : pg.length = (b.length + 511) / 504 := by
  have h1 := congrArg List.length h
  rw [List.length_map, List.length_map, pieces_length] at h1
  have h2 : (allM b).length = 8 + b.length := by simp [allM]
  rw [h1, h2]
  congr 1; omega
theorem may_len {m : Mf} (hy : mayM m = true) (hs : m.terms.size + m.rels.length + thick m.rels ≤ 20000) : (encM m).length ≤ 24000 := by
  have h1 := rels_len hy
  have h2 : m.input.size ≤ 100 := by
    unfold mayM at hy
    simp only [Bool.and_eq_true, decide_eq_true_eq] at hy
    exact hy.1.1.1.2
  rw [encM_length]; omega
theorem used2 {n1 n2 : ByteArray} {p1 p2 : List Pg} : usedL ([(⟨n1, p1, []⟩ : Fl)] ++ ⟨n2, p2, []⟩ :: []) = p1.length + p2.length := by
  simp [usedL, Fl.pages]
theorem crash_plain {old m : Mf} {b : List UInt8} (hb : b.length ≤ 20000) (io : old.input = nmIn) (im : m.input = nmIn) (so : old.terms.size + old.rels.length + thick old.rels ≤ 20000) (sm : m.terms.size + m.rels.length + thick m.rels ≤ 20000)
    (oo : 0 ≤ old.opts ∧ old.opts < 256) (om : 0 ≤ m.opts ∧ m.opts < 256) :
    ∃ s1 : Dk, (dk0 400).putM nmIn b = (s1, 0) ∧ ((mayM old = false ∧ s1.commit old = (s1, 2)) ∨
      (mayM old = true ∧ ∃ s2, s1.commit old = (s2, 0) ∧ ∀ i k, ∃ s4 f, (s2.setCrash i k).commit m = (s4, f) ∧
        ((f = 2 ∧ s4.down = false) ∨ (f = 0 ∧ mayM m = true ∧ s4.restart.getM nmIn = (b, 0) ∧ s4.restart.recover.1 = (m, true, 0)) ∨
         (f = 4 ∧ mayM m = true ∧ s4.down = true ∧ s4.restart.getM nmIn = (b, 0) ∧ s4.restart.recover.1 = (old, true, 0))))) := by
  have f0 := dk0_fine 400
  have q9 : (dk0 400).quota = 400 := rfl
  rw [q9] at f0
  have u0 : usedL [] = 0 := rfl
  have pb : (pieces (allM b)).length = (b.length + 511) / 504 := by
    rw [pieces_length]
    have : (allM b).length = 8 + b.length := by simp [allM]
    rw [this]; congr 1; omega
  obtain ⟨pi, hi, f1, e1⟩ := put_fine (n := nmIn) (b := b) f0 (by decide) (by simp) (by decide) (by rw [u0, pb]; omega)
  have li := pg_len hi
  generalize hs1 : (dk0 400).putM nmIn b = s1 at *
  have fe : ([] ++ [(⟨nmIn, pi, []⟩ : Fl)]) = [⟨nmIn, pi, []⟩] := rfl
  rw [fe] at f1
  refine ⟨s1.1, Prod.ext rfl e1, ?_⟩
  cases hyo : mayM old with
  | false => exact .inl ⟨rfl, by unfold Dk.commit; rw [if_pos hyo]⟩
  | true =>
    refine .inr ⟨rfl, ?_⟩
    have nIN : nmIn ≠ nmN := ne_of_data (by decide)
    have nIM : nmIn ≠ nmM := ne_of_data (by decide)
    have nNM : nmN ≠ nmM := ne_of_data (by decide)
    have lo := may_len hyo so
    have pieL : ∀ x : Mf, (pieces (allM (encM x))).length = ((encM x).length + 511) / 504 := by
      intro x
      rw [pieces_length]
      have : (allM (encM x)).length = 8 + (encM x).length := by simp [allM]
      rw [this]; congr 1; omega
    have u1 : usedL [(⟨nmIn, pi, []⟩ : Fl)] = pi.length := by simp [usedL, Fl.pages]
    obtain ⟨po, ho, f2, e2⟩ := commit_first (m := old) f1 hyo (by intro g hg; simp at hg; rw [hg]; exact ⟨nIN, nIM⟩) (by simp) (by rw [u1, pieL]; omega)
    have lpo := pg_len ho
    generalize hs2 : s1.1.commit old = s2 at *
    refine ⟨s2.1, Prod.ext rfl e2, fun i k => ?_⟩
    have f3 := f2.upd.crash i k
    generalize s2.1.setCrash i k = s3 at *
    have bI : (nmIn.toList == nmM.toList) = false := by rw [ByteArray.toList_eq, ByteArray.toList_eq]; decide
    cases hym : mayM m with
    | false => exact ⟨s3, 2, by unfold Dk.commit; rw [if_pos hym], .inl ⟨rfl, f3.down⟩⟩
    | true =>
      have lm := may_len hym sm
      have hno : ∀ g ∈ [(⟨nmIn, pi, []⟩ : Fl)] ++ [], g.name ≠ nmN ∧ g.name ≠ nmM := by
        intro g hg; simp at hg; rw [hg]; exact ⟨nIN, nIM⟩
      rcases commit_over (a := [⟨nmIn, pi, []⟩]) (b := []) (f := ⟨nmM, po, []⟩) (m := m) f3 hym rfl hno (by simp) (by rw [used2, pieL]; omega) with ⟨pm, hm, f4, e4⟩ | ⟨rest, hr, f4, e4⟩
      · refine ⟨(s3.commit m).1, 0, Prod.ext rfl e4, .inr (.inl ⟨rfl, rfl, ?_⟩)⟩
        generalize (s3.commit m).1 = s4 at *
        have fe4 : [(⟨nmIn, pi, []⟩ : Fl)] ++ ([] ++ [⟨nmM, pm, []⟩]) = [⟨nmIn, pi, []⟩, ⟨nmM, pm, []⟩] := rfl
        rw [fe4] at f4
        rw [f4.restart]
        refine ⟨getM_upd f4 (i := 0) (f := ⟨nmIn, pi, []⟩) (by simp [List.findIdx?_cons]) rfl hi (by omega), ?_⟩
        have gM : s4.getM nmM = (encM m, 0) := getM_upd f4 (i := 1) (f := ⟨nmM, pm, []⟩) (by simp [List.findIdx?_cons, bI]) rfl hm (by omega)
        rw [recover_still f4 gM hym om (by
          intro g hg
          simp at hg
          rcases hg with rfl | rfl
          · rw [keeps_iff, im]; simp
          · rw [keeps_iff]; simp)]
      · refine ⟨(s3.commit m).1, 4, Prod.ext rfl e4, .inr (.inr ⟨rfl, rfl, f4.down, ?_⟩)⟩
        generalize (s3.commit m).1 = s4 at *
        have f5 := f4.restart
        have fe5 : (([(⟨nmIn, pi, []⟩ : Fl)] ++ (⟨nmM, po, []⟩ : Fl) :: []) ++ rest).map s4.after = (⟨nmIn, pi, []⟩ : Fl) :: (⟨nmM, po, []⟩ : Fl) :: rest.map s4.after := by
          simp [after_synced]
        rw [fe5] at f5
        have hnd : (((⟨nmIn, pi, []⟩ : Fl) :: (⟨nmM, po, []⟩ : Fl) :: rest.map s4.after).map (·.name)).Nodup := by
          rcases hr with rfl | ⟨f', rfl, hf'⟩
          · simp [nIM]
          · have h9 : (s4.after f').name = nmN := hf'
            simp [nIM, h9, nIN, Ne.symm nNM]
        generalize s4.restart = s5 at *
        refine ⟨getM_fine f5 (i := 0) (f := ⟨nmIn, pi, []⟩) (by simp [List.findIdx?_cons]) rfl hi (by omega), ?_⟩
        have gM : s5.getM nmM = (encM old, 0) := getM_fine f5 (i := 1) (f := ⟨nmM, po, []⟩) (by simp [List.findIdx?_cons, bI]) rfl ho (by omega)
        exact (recover_fine f5 hnd gM hyo oo).1
/-- What lies still while a disk that was made since is worked on: two manifests. -/
structure CrS (H H5 : Heap) (p1 p2 : Nat) (old m : Mf) (ro rm : Sl) (d : Nat) (A : Heap) (s : Dk) : Prop where
  dk : ∃ F, DiskAt F A d s ∧ ∀ b, F b → H5.size ≤ b
  e : Ext H A
  z : H5.size ≤ A.size
  r1 : RowT A p1 ty_api_Manifest (headM old.opts old.next old.input old.terms ro)
  r2 : RowT A p2 ty_api_Manifest (headM m.opts m.next m.input m.terms rm)
section
variable {H H5 A B : Heap} {p1 p2 : Nat} {old m : Mf} {ro rm : Sl} {d : Nat} {s : Dk}
theorem CrS.go (c : CrS H H5 p1 p2 old m ro rm d A s) (h5 : H.size ≤ H5.size) (hp1 : p1 < H5.size) (hp2 : p2 < H5.size) : ∃ F, DiskAt F A d s ∧ (∀ b, b < H5.size → ¬ F b) ∧ ∀ (s' : Dk) (F' : Nat → Prop) (B : Heap), DiskAt F' B d s' → Step F F' A B → CrS H H5 p1 p2 old m ro rm d B s' := by
  obtain ⟨F, h1, h2⟩ := c.dk
  have hz := c.e.size
  have z := c.z
  have nF : ∀ b, b < H5.size → ¬ F b := fun b hb q => by have := h2 b q; omega
  refine ⟨F, h1, nF, fun s' F' B h3 S => ⟨⟨F', h3, fun b hb => (S.own b hb).elim (h2 b) fun q => by omega⟩, ⟨Nat.le_trans hz S.mod.size, fun b hb _ => (S.mod.same b (Nat.lt_of_lt_of_le hb hz) (nF b (Nat.lt_of_lt_of_le hb h5))).trans (c.e.same b hb id)⟩, Nat.le_trans z S.mod.size, c.r1.mod S.mod (nF _ hp1), c.r2.mod S.mod (nF _ hp2)⟩⟩
theorem CrS.ext (c : CrS H H5 p1 p2 old m ro rm d A s) (x : Ext A B) : CrS H H5 p1 p2 old m ro rm d B s := by
  obtain ⟨F, h1, h2⟩ := c.dk
  exact ⟨⟨F, h1.keep fun b _ hl => x.same b hl id, h2⟩, Mod.trans c.e x, Nat.le_trans c.z x.size, c.r1.ext x, c.r2.ext x⟩
end
theorem CrS.via {H H5 A : Heap} {p1 p2 : Nat} {old m : Mf} {ro rm : Sl} {d : Nat} {s : Dk} {F : Nat → Prop} (c : CrS H H5 p1 p2 old m ro rm d A s) (h5 : H.size ≤ H5.size) (hp1 : p1 < H5.size) (hp2 : p2 < H5.size) (nF : ∀ b, b < H5.size → ¬ F b) : ∀ (s' : Dk) (F' : Nat → Prop) (B : Heap), DiskAt F' B d s' → Step F F' A B → CrS H H5 p1 p2 old m ro rm d B s' := by
  have hz := c.e.size
  have z := c.z
  refine fun s' F' B h3 S => ⟨⟨F', h3, fun b hb => (S.own b hb).elim (fun q => ?_) fun q => by omega⟩, ⟨Nat.le_trans hz S.mod.size, fun b hb _ => (S.mod.same b (Nat.lt_of_lt_of_le hb hz) (nF b (Nat.lt_of_lt_of_le hb h5))).trans (c.e.same b hb id)⟩, Nat.le_trans z S.mod.size, c.r1.mod S.mod (nF _ hp1), c.r2.mod S.mod (nF _ hp2)⟩
  rcases Nat.lt_or_ge b H5.size with h | h
  · exact absurd q (nF b h)
  · exact h
theorem mayM_in {m : Mf} : ({ m with input := nmIn } : Mf).input = nmIn := rfl
end Go.Proofs.YtjjfngnokbboeaaDoor

/-
  A manifest found twice, with a crash between: in plain words.
-/
namespace Go.Proofs.YtjjfngnokbboeaaDoor

theorem filter_absent {fs : List Fl} {n : ByteArray} (h : ∀ g ∈ fs, g.name ≠ n) : fs.filter (fun g => !(decide (g.name = n))) = fs :=
  List.filter_eq_self.2 fun g hg => by simpa using h g hg
theorem drop_files {t : Dk} {fs : List Fl} {n : ByteArray} (h : t.files = fs) (hd : (fs.map (·.name)).Nodup) : t.drop n = { t with files := fs.filter fun g => !(decide (g.name = n)) } := by
  unfold Dk.drop
  cases hx : t.idx n with
  | none =>
    have hn := Dk.idx_none hx
    rw [h] at hn
    simp only
    rw [filter_absent hn, ← h]
  | some i =>
    simp only
    unfold Dk.idx at hx
    rw [h] at hx ⊢
    rw [erase_filter fs i hd hx]
theorem nodup_filter {fs : List Fl} {p : Fl → Bool} (h : (fs.map (·.name)).Nodup) : ((fs.filter p).map (·.name)).Nodup := h.sublist (List.Sublist.map _ List.filter_sublist)
theorem clear_fine {d : Dk} {fs : List Fl} {q : Nat} {n : ByteArray} (h : Fine d fs q) (hd : (fs.map (·.name)).Nodup) : Fine (d.clear n).1 (fs.filter fun g => !(decide (g.name = n))) q ∧ (d.clear n).2 = 0 := by
  unfold Dk.clear
  by_cases hm : ∃ g ∈ fs, g.name = n
  · have hl : (d.len n).2 = 0 := by
      unfold Dk.len Dk.open
      rw [if_neg (by rw [h.down]; simp)]
      cases hx : d.idx n with
      | some i => rfl
      | none =>
        obtain ⟨g, hg, e⟩ := hm
        have := Dk.idx_none hx g (by rw [h.files]; exact hg)
        exact absurd e this
    rw [if_pos hl]
    exact remove_fine h hd hm
  · have hno : ∀ g ∈ fs, g.name ≠ n := fun g hg e => hm ⟨g, hg, e⟩
    have hx : d.idx n = none := by unfold Dk.idx; rw [h.files]; exact idx_absent hno
    have hl : ¬ (d.len n).2 = 0 := by
      unfold Dk.len Dk.open
      rw [if_neg (by rw [h.down]; simp), hx]; simp
    rw [if_neg hl, filter_absent hno]
    exact ⟨h, rfl⟩
theorem make_fine {d : Dk} {fs : List Fl} {q : Nat} {n : ByteArray} {b : List UInt8} (h : Fine d fs q) (hn : named n = true) (hno : ∀ g ∈ fs, g.name ≠ n) (hf : fs.length < 4096) (hq : usedL fs + (pieces (allM b)).length ≤ q) :
    ∃ pg : List Pg, pg.map (·.1) = (pieces (allM b)).map (sealP 3) ∧ Fine (d.make n b).1 (fs ++ [⟨n, pg, []⟩]) q ∧ (d.make n b).2 = 0 := by
  obtain ⟨rest, h1, h2, h3⟩ := make_tail (n := n) (b := b) h.down hn (by rw [h.files]; exact hno) (by rw [h.files]; exact hf) (by rw [h.files, h.quota]; exact hq)
  rcases h3 with ⟨a1, a2, ⟨pg, a3, a4⟩, a5⟩ | ⟨_, _, a3, _⟩
  · exact ⟨pg, a4, ⟨by rw [h1, h.files, a3], a2, a5 h.crash, h2.trans h.quota⟩, a1⟩
  · exact absurd h.crash a3
/-- A name is given anew, whatever stood under it. -/
theorem rename_any {d : Dk} {fs : List Fl} {f : Fl} {q : Nat} {n m : ByteArray} (h : Fine d (fs ++ [f]) q) (hd : (fs.map (·.name)).Nodup) (hf : f.name = n) (hno : ∀ g ∈ fs, g.name ≠ n) (hm : named m = true) (hnm : n ≠ m) :
    Fine (d.rename n m).1 ((fs.filter fun g => !(decide (g.name = m))) ++ [{ f with name := m }]) q ∧ (d.rename n m).2 = 0 := by
  unfold Dk.rename
  rw [if_neg (by rw [h.down]; simp), if_neg (by rw [hm]; simp), if_neg (by rw [idx_last h.files hf hno]; simp)]
  obtain ⟨t, ht, e⟩ := Dk.step_fine h fun t => if n.toList = m.toList then t else (t.drop m).setName n m
  rw [e, if_neg fun q => hnm (ba_eq q)]
  have hd2 : ((fs ++ [f]).map (·.name)).Nodup := by
    rw [List.map_append, List.nodup_append]
    refine ⟨hd, by simp, ?_⟩
    intro a ha b hb
    simp at hb
    obtain ⟨g, hg, rfl⟩ := List.mem_map.1 ha
    rw [hb, hf]; exact hno g hg
  have hfl : (fs ++ [f]).filter (fun g => !(decide (g.name = m))) = (fs.filter fun g => !(decide (g.name = m))) ++ [f] := by
    rw [List.filter_append, List.filter_cons, if_pos (by rw [hf]; simpa using hnm)]; rfl
  rw [drop_files ht.files hd2, hfl]
  generalize hg : (fs.filter fun g => !(decide (g.name = m))) = gs
  have hno2 : ∀ g ∈ gs, g.name ≠ n := by
    intro g hg2
    rw [← hg] at hg2
    exact hno g (List.mem_filter.1 hg2).1
  have hs : ({ t with files := gs ++ [f] } : Dk).setName n m = { t with files := (gs ++ [f]).modify gs.length fun f => { f with name := m } } := by
    unfold Dk.setName; rw [idx_last (d := { t with files := gs ++ [f] }) rfl hf hno2]
  rw [hs, modify_tail]
  exact ⟨⟨rfl, ht.down, ht.crash, ht.quota⟩, rfl⟩
theorem usedL_filter {p : Fl → Bool} : ∀ fs : List Fl, usedL (fs.filter p) ≤ usedL fs
  | [] => Nat.le_refl _
  | f :: fs => by
    have ih := usedL_filter (p := p) fs
    have e : usedL (f :: fs) = f.pages.length + usedL fs := by simp [usedL]
    rw [List.filter_cons]
    split
    · have e2 : usedL (f :: fs.filter p) = f.pages.length + usedL (fs.filter p) := by simp [usedL]
      omega
    · omega
/-- A manifest is committed, whatever lies about. -/
theorem commit_any {d : Dk} {fs : List Fl} {q : Nat} {m : Mf} (h : Fine d fs q) (hd : (fs.map (·.name)).Nodup) (hy : mayM m = true) (hf : fs.length < 4096) (hq : usedL fs + (pieces (allM (encM m))).length ≤ q) :
    ∃ pg : List Pg, pg.map (·.1) = (pieces (allM (encM m))).map (sealP 3) ∧ Fine (d.commit m).1 (((fs.filter fun g => !(decide (g.name = nmN))).filter fun g => !(decide (g.name = nmM))) ++ [⟨nmM, pg, []⟩]) q ∧ (d.commit m).2 = 0 := by
  obtain ⟨c1, c2⟩ := clear_fine (n := nmN) h hd
  have hfl : (fs.filter fun g => !(decide (g.name = nmN))).length ≤ fs.length := List.length_filter_le _ _
  have hu := usedL_filter (p := fun g => !(decide (g.name = nmN))) fs
  have hd1 := nodup_filter (p := fun g => !(decide (g.name = nmN))) hd
  have hno : ∀ g ∈ fs.filter (fun g => !(decide (g.name = nmN))), g.name ≠ nmN := fun g hg => by simpa using (List.mem_filter.1 hg).2
  obtain ⟨pg, h1, h2, h3⟩ := make_fine (n := nmN) (b := encM m) c1 (by decide) hno (by omega) (by omega)
  obtain ⟨h4, h5⟩ := rename_any (m := nmM) h2 hd1 rfl hno (by decide) (ne_of_data (by decide) : nmN ≠ nmM)
  have hp : d.putM nmN (encM m) = (d.clear nmN).1.make nmN (encM m) := by
    unfold Dk.putM; rw [if_neg (by rw [c2]; simp)]
  have hc : d.commit m = ((d.clear nmN).1.make nmN (encM m)).1.rename nmN nmM := by
    unfold Dk.commit
    rw [if_neg (by rw [hy]; simp), hp, if_neg (by rw [h3]; simp)]
  rw [hc]
  exact ⟨pg, h1, h4, h5⟩
theorem remove_upd {d : Dk} {fs : List Fl} {q : Nat} {n : ByteArray} (h : Upd d fs q) (hd : (fs.map (·.name)).Nodup) (hm : ∃ g ∈ fs, g.name = n) :
    (Upd (d.remove n).1 (fs.filter fun g => !(decide (g.name = n))) q ∧ (d.remove n).2 = 0) ∨ (Off (d.remove n).1 fs q ∧ (d.remove n).2 = 4) := by
  have hx : ¬ (d.idx n).isNone = true := by
    cases hx : d.idx n with
    | some i => simp
    | none =>
      obtain ⟨g, hg, e⟩ := hm
      exact absurd e (Dk.idx_none hx g (by rw [h.files]; exact hg))
  unfold Dk.remove
  rw [if_neg (by rw [h.down]; simp), if_neg hx]
  rcases d.step_res (fun t => t.drop n) with ⟨t, t1, t2, t3, _, _, _, t7⟩ | ⟨q1, _⟩
  · rw [t7, drop_files (t1.trans h.files) hd]
    exact .inl ⟨⟨rfl, t3.trans h.down, t2.trans h.quota⟩, rfl⟩
  · rw [q1]
    exact .inr ⟨⟨h.files, rfl, h.quota⟩, rfl⟩
/-- What a sweep leaves, with a crash or without. -/
theorem sweep_upd {f : Option Mf} {q : Nat} : ∀ (l : List (List UInt8)) (d : Dk) (fs : List Fl), Upd d fs q → (fs.map (·.name)).Nodup → l.Nodup → (∀ n ∈ l, ∃ g ∈ fs, g.name = baOf n) →
    (Upd (Dk.sweep f l d).1 (fs.filter fun g => keeps f g.name.data.toList || !(l.contains g.name.data.toList)) q ∧ (Dk.sweep f l d).2 = 0) ∨
    (∃ fs', Off (Dk.sweep f l d).1 fs' q ∧ (Dk.sweep f l d).2 = 4 ∧ fs'.Sublist fs ∧ ∀ g ∈ fs, keeps f g.name.data.toList = true → g ∈ fs')
  | [], d, fs, h, _, _, _ => by
    refine .inl ⟨?_, rfl⟩
    have : (fs.filter fun g => keeps f g.name.data.toList || !(([] : List (List UInt8)).contains g.name.data.toList)) = fs := List.filter_eq_self.2 fun g hg => by simp
    rw [this]; exact h
  | n :: l, d, fs, h, hd, hl, hm => by
    rw [List.nodup_cons] at hl
    rw [sweep_cons]
    by_cases hk : keeps f n = true
    · rw [if_pos hk]
      have e : (fs.filter fun g => keeps f g.name.data.toList || !((n :: l).contains g.name.data.toList)) = fs.filter fun g => keeps f g.name.data.toList || !(l.contains g.name.data.toList) := by
        refine List.filter_congr fun g hg => ?_
        by_cases hg2 : g.name.data.toList = n
        · rw [hg2, hk]; simp
        · rw [List.contains_cons, show (g.name.data.toList == n) = false by simpa using hg2, Bool.false_or]
      rw [e]
      exact sweep_upd l d fs h hd hl.2 fun x hx => hm x (List.mem_cons_of_mem _ hx)
    · rw [if_neg hk]
      have hk2 : keeps f n = false := by simpa using hk
      rcases remove_upd h hd (hm n List.mem_cons_self) with ⟨r1, r2⟩ | ⟨r1, r2⟩
      · rw [if_neg (by rw [r2]; simp)]
        have hin : ∀ g : Fl, keeps f g.name.data.toList = true → ¬ g.name = baOf n := fun g hg e => by
          rw [e] at hg
          have : (baOf n).data.toList = n := by simp [baOf]
          rw [this, hk2] at hg; cases hg
        rcases sweep_upd (f := f) l (d.remove (baOf n)).1 _ r1 (nodup_filter hd) hl.2 (fun x hx => by
          obtain ⟨g, hg, e⟩ := hm x (List.mem_cons_of_mem _ hx)
          refine ⟨g, List.mem_filter.2 ⟨hg, ?_⟩, e⟩
          have : ¬ g.name = baOf n := fun q => hl.1 (by
            rw [e] at q
            have : x = n := by have := congrArg (fun z : ByteArray => z.data.toList) q; simpa [baOf] using this
            rw [← this]; exact hx)
          simpa using this) with ⟨h1, h2⟩ | ⟨fs', h1, h2, h3, h4⟩
        · refine .inl ⟨?_, h2⟩
          have e : (fs.filter fun g => keeps f g.name.data.toList || !((n :: l).contains g.name.data.toList)) = (fs.filter fun g => !(decide (g.name = baOf n))).filter fun g => keeps f g.name.data.toList || !(l.contains g.name.data.toList) := by
            rw [List.filter_filter]
            refine List.filter_congr fun g hg => ?_
            by_cases hg2 : g.name.data.toList = n
            · have e3 : g.name = baOf n := by rw [← hg2]; rfl
              rw [hg2, hk2, e3]; simp
            · have e3 : ¬ g.name = baOf n := fun q => hg2 (by rw [q]; simp [baOf])
              rw [List.contains_cons, show (g.name.data.toList == n) = false by simpa using hg2, Bool.false_or]
              simp [e3]
          rw [e]; exact h1
        · refine .inr ⟨fs', h1, h2, h3.trans List.filter_sublist, fun g hg hkg => h4 g (List.mem_filter.2 ⟨hg, by simpa using hin g hkg⟩) hkg⟩
      · rw [if_pos (by rw [r2]; simp)]
        exact .inr ⟨fs, r1, r2, List.Sublist.refl _, fun g hg _ => hg⟩
theorem names_nodup {fs : List Fl} (hd : (fs.map (·.name)).Nodup) : (fs.map fun f => f.name.data.toList).Nodup := by
  have : (fs.map fun f => f.name.data.toList) = (fs.map (·.name)).map fun n => n.data.toList := by rw [List.map_map]; rfl
  rw [this]
  refine List.Pairwise.map _ ?_ hd
  intro a b hab e
  exact hab (ba_eq (by rw [ByteArray.toList_eq, ByteArray.toList_eq]; exact e))
theorem idx_mem {fs : List Fl} {f : Fl} {n : ByteArray} (hd : (fs.map (·.name)).Nodup) (hf : f ∈ fs) (hn : f.name = n) : ∃ i, fs.findIdx? (fun f => f.name.toList == n.toList) = some i ∧ fs[i]? = some f := by
  cases hx : fs.findIdx? (fun f => f.name.toList == n.toList) with
  | none =>
    rw [List.findIdx?_eq_none_iff] at hx
    have := hx f hf
    rw [hn] at this; simp at this
  | some i =>
    refine ⟨i, rfl, ?_⟩
    obtain ⟨h1, h2, _⟩ := List.findIdx?_eq_some_iff_getElem.1 hx
    have e : fs[i].name = n := ba_eq (by simpa using h2)
    obtain ⟨j, hj⟩ := List.mem_iff_getElem?.1 hf
    have hj1 : j < fs.length := (List.getElem?_eq_some_iff.1 hj).1
    have : (fs.map (·.name))[i]? = (fs.map (·.name))[j]? := by
      rw [List.getElem?_map, List.getElem?_map, hj, List.getElem?_eq_getElem h1]
      simp [e, hn]
    have hij := (List.getElem?_inj (by simpa using h1) hd).1 this
    rw [hij]; exact hj
def Still (s : Dk) (m : Mf) : Prop := ∀ i k, (s.setCrash i k).recover = ((m, true, 0), s.setCrash i k)
theorem still_of {s : Dk} {fs : List Fl} {q : Nat} {m : Mf} {pg : List Pg} (h : Upd s fs q) (hd : (fs.map (·.name)).Nodup) (hp : pg.map (·.1) = (pieces (allM (encM m))).map (sealP 3)) (hin : (⟨nmM, pg, []⟩ : Fl) ∈ fs) (hy : mayM m = true) (ho : 0 ≤ m.opts ∧ m.opts < 256) (hl : (encM m).length < 18446744073709551616) (hk : ∀ g ∈ fs, keeps (some m) g.name.data.toList = true) : Still s m := by
  intro i k
  have h1 := h.crash i k
  obtain ⟨j, hj, hf⟩ := idx_mem (n := nmM) hd hin rfl
  exact recover_still h1 (getM_upd h1 hj hf hp hl) hy ho hk
theorem logs0 {d : Dk} {fs : List Fl} (h : d.files = fs) (hl : ∀ g ∈ fs, g.log = []) : d.logs = 0 := by
  unfold Dk.logs
  rw [h]
  clear h
  induction fs with
  | nil => rfl
  | cons f fs ih =>
    rw [List.map_cons, List.sum_cons, ih fun g hg => hl g (List.mem_cons_of_mem _ hg), hl f List.mem_cons_self]; rfl
theorem after_log {d : Dk} {fs : List Fl} (h : ∀ g ∈ fs, g.log = []) : fs.map d.after = fs := by
  have : ∀ g ∈ fs, d.after g = g := by
    intro g hg
    have hl := h g hg
    cases g
    simp only at hl
    subst hl
    exact after_synced _ _ _
  rw [List.map_congr_left this]; simp
theorem twice_plain {m : Mf} {fs : List Fl} {s : Dk} (h : Fine s fs 400) (hd : (fs.map (·.name)).Nodup) (hemp : ∀ g ∈ fs, g.synced = [] ∧ g.log = []) (hlen : fs.length ≤ 100) (sm : m.terms.size + m.rels.length + thick m.rels ≤ 20000) (om : 0 ≤ m.opts ∧ m.opts < 256) :
    (mayM m = false ∧ s.commit m = (s, 2)) ∨ (mayM m = true ∧ ∃ s2, s.commit m = (s2, 0) ∧ s2.logs = 0 ∧ ∀ i k, ∃ s4 res, (s2.setCrash i k).recover = (res, s4) ∧ s4.logs = 0 ∧
      ((s4.down = false ∧ res = (m, true, 0) ∧ Still s4 m) ∨ (s4.down = true ∧ res = (mf0, false, 4) ∧ ∃ s6, s4.restart.recover = ((m, true, 0), s6) ∧ s6.logs = 0 ∧ s6.down = false ∧ Still s6 m))) := by
  cases hy : mayM m with
  | false => exact .inl ⟨rfl, by unfold Dk.commit; rw [if_pos hy]⟩
  | true =>
    refine .inr ⟨rfl, ?_⟩
    have hl := may_len hy sm
    have u0 : ∀ gs : List Fl, (∀ g ∈ gs, g.synced = [] ∧ g.log = []) → usedL gs = 0 := by
      intro gs
      induction gs with
      | nil => intro _; rfl
      | cons g gs ih =>
        intro hg
        have h1 := ih fun x hx => hg x (List.mem_cons_of_mem _ hx)
        have h2 := hg g List.mem_cons_self
        have e : usedL (g :: gs) = g.pages.length + usedL gs := by simp [usedL]
        rw [e, h1]
        unfold Fl.pages
        rw [h2.1, h2.2]; rfl
    have pie : (pieces (allM (encM m))).length ≤ 50 := by
      rw [pieces_length]
      have : (allM (encM m)).length = 8 + (encM m).length := by simp [allM]
      omega
    obtain ⟨pg, hp, f2, e2⟩ := commit_any h hd hy (by omega) (by rw [u0 fs hemp]; omega)
    generalize hgs : ((fs.filter fun g => !(decide (g.name = nmN))).filter fun g => !(decide (g.name = nmM))) = gs at f2
    have gsub : gs.Sublist fs := by rw [← hgs]; exact List.filter_sublist.trans List.filter_sublist
    have hlog : ∀ g ∈ gs ++ [(⟨nmM, pg, []⟩ : Fl)], g.log = [] := by
      intro g hg
      rcases List.mem_append.1 hg with q | q
      · exact (hemp g (gsub.subset q)).2
      · simp at q; rw [q]
    have hnd : ((gs ++ [(⟨nmM, pg, []⟩ : Fl)]).map (·.name)).Nodup := by
      rw [List.map_append, List.nodup_append]
      refine ⟨hd.sublist (List.Sublist.map _ gsub), by simp, ?_⟩
      intro a ha b hb
      simp at hb
      obtain ⟨g, hg, rfl⟩ := List.mem_map.1 ha
      rw [← hgs] at hg
      have := (List.mem_filter.1 hg).2
      rw [hb]; simpa using this
    have hin : (⟨nmM, pg, []⟩ : Fl) ∈ gs ++ [(⟨nmM, pg, []⟩ : Fl)] := by simp
    generalize gs ++ [(⟨nmM, pg, []⟩ : Fl)] = ks at f2 hlog hnd hin
    refine ⟨(s.commit m).1, Prod.ext rfl e2, logs0 f2.files hlog, fun i k => ?_⟩
    have f3 := f2.upd.crash i k
    generalize (s.commit m).1.setCrash i k = s3 at f3
    obtain ⟨j, hj, hfj⟩ := idx_mem (n := nmM) hnd hin rfl
    have gM : s3.getM nmM = (encM m, 0) := getM_upd f3 hj hfj hp (by omega)
    have hfm : s3.foundM = some m := by
      unfold Dk.foundM
      rw [gM, if_pos rfl]
      exact dec_enc hy om
    have hpm := list_upd f3
    have hrec : s3.recover = if (Dk.sweep (some m) s3.list s3).2 ≠ 0 then ((mf0, false, (Dk.sweep (some m) s3.list s3).2), (Dk.sweep (some m) s3.list s3).1) else ((m, true, 0), (Dk.sweep (some m) s3.list s3).1) := by
      unfold Dk.recover
      rw [gM, if_neg (by simp), hfm]
      rfl
    have hkM : keeps (some m) nmM.data.toList = true := by rw [keeps_iff]; simp
    rcases sweep_upd (f := some m) s3.list s3 ks f3 hnd (hpm.nodup_iff.2 (names_nodup hnd)) (fun n hn => by
      obtain ⟨g, hg, e⟩ := List.mem_map.1 (hpm.mem_iff.1 hn)
      exact ⟨g, hg, by rw [← e]; rfl⟩) with ⟨h1, h2⟩ | ⟨fs', h1, h2, h3, h4⟩
    · rw [if_neg (by rw [h2]; simp)] at hrec
      have e : (ks.filter fun g => keeps (some m) g.name.data.toList || !(s3.list.contains g.name.data.toList)) = ks.filter fun g => keeps (some m) g.name.data.toList := by
        refine List.filter_congr fun g hg => ?_
        have : s3.list.contains g.name.data.toList = true := by
          rw [List.contains_iff_mem]
          exact hpm.mem_iff.2 (List.mem_map.2 ⟨g, hg, rfl⟩)
        rw [this]; simp
      rw [e] at h1
      refine ⟨_, _, hrec, logs0 h1.files fun g hg => hlog g (List.mem_filter.1 hg).1, .inl ⟨h1.down, rfl, ?_⟩⟩
      exact still_of h1 (nodup_filter hnd) hp (List.mem_filter.2 ⟨hin, hkM⟩) hy om (by omega) fun g hg => (List.mem_filter.1 hg).2
    · rw [if_pos (by rw [h2]; simp), h2] at hrec
      have hlog' : ∀ g ∈ fs', g.log = [] := fun g hg => hlog g (h3.subset hg)
      refine ⟨_, _, hrec, logs0 h1.files hlog', .inr ⟨h1.down, rfl, ?_⟩⟩
      have f5 := h1.restart
      generalize (Dk.sweep (some m) s3.list s3).1 = s4 at f5
      rw [after_log hlog'] at f5
      have hnd' := hnd.sublist (List.Sublist.map (fun f : Fl => f.name) h3)
      have hin' := h4 _ hin hkM
      obtain ⟨j, hj, hfj⟩ := idx_mem (n := nmM) hnd' hin' rfl
      obtain ⟨r1, r2⟩ := recover_fine f5 hnd' (getM_fine f5 hj hfj hp (by omega)) hy om
      refine ⟨s4.restart.recover.2, Prod.ext r1 rfl, logs0 r2.files fun g hg => hlog' g (List.mem_filter.1 hg).1, r2.down, ?_⟩
      exact still_of r2.upd (nodup_filter hnd') hp (List.mem_filter.2 ⟨hin', hkM⟩) hy om (by omega) fun g hg => (List.mem_filter.1 hg).2
end Go.Proofs.YtjjfngnokbboeaaDoor

/-
  ManifestKnown: what the examples of the chapter answer, in plain words.
-/
namespace Go.Proofs.YtjjfngnokbboeaaDoor

/-- Bytes put on a disk, whatever stood under the name. -/
theorem put_any {d : Dk} {fs : List Fl} {q : Nat} {n : ByteArray} {b : List UInt8} (h : Fine d fs q) (hd : (fs.map (·.name)).Nodup) (hn : named n = true) (hf : fs.length < 4096) (hq : usedL (fs.filter fun g => !(decide (g.name = n))) + (pieces (allM b)).length ≤ q) :
    ∃ pg : List Pg, pg.map (·.1) = (pieces (allM b)).map (sealP 3) ∧ pg.length = (b.length + 511) / 504 ∧ Fine (d.putM n b).1 ((fs.filter fun g => !(decide (g.name = n))) ++ [(⟨n, pg, []⟩ : Fl)]) q ∧ (d.putM n b).2 = 0 := by
  obtain ⟨c1, c2⟩ := clear_fine (n := n) h hd
  have hfl : (fs.filter fun g => !(decide (g.name = n))).length ≤ fs.length := List.length_filter_le _ _
  obtain ⟨pg, h1, h2, h3⟩ := make_fine (n := n) (b := b) c1 hn (fun g hg => by simpa using (List.mem_filter.1 hg).2) (by omega) hq
  have hp : d.putM n b = (d.clear n).1.make n b := by
    unfold Dk.putM; rw [if_neg (by rw [c2]; simp)]
  rw [hp]
  exact ⟨pg, h1, pg_len h1, h2, h3⟩
theorem pieL (b : List UInt8) : (pieces (allM b)).length = (b.length + 511) / 504 := by
  rw [pieces_length]
  have : (allM b).length = 8 + b.length := by simp [allM]
  rw [this]; congr 1; omega
def nmG : ByteArray := ByteArray.mk #[103]
def nmH : ByteArray := ByteArray.mk #[104]
def nmF2 : ByteArray := ByteArray.mk #[102]
theorem used_add {fs : List Fl} {n : ByteArray} {pg : List Pg} : usedL (fs ++ [(⟨n, pg, []⟩ : Fl)]) = usedL fs + pg.length := by
  rw [usedL_append, usedL_one]; rfl
theorem four_plain (g h h2 : List UInt8) (hg : g.length = 496) (hh : h.length = 497) (hh2 : h2.length = 9) :
    ∃ s1 s2 s3 s4 : Dk, (dk0 9).putM nmF2 [] = (s1, 0) ∧ s1.putM nmG g = (s2, 0) ∧ s2.putM nmH h = (s3, 0) ∧ s3.used = 4 ∧ s3.putM nmH h2 = (s4, 0) ∧ s4.used = 3 ∧ s4.putM ByteArray.empty [] = (s4, 2) ∧
      s4.read nmF2 0 = (sealP 3 (beN 8 0), 0) := by
  have f0 := dk0_fine 9
  have q9 : (dk0 9).quota = 9 := rfl
  rw [q9] at f0
  have nFG : nmF2 ≠ nmG := ne_of_data (by decide)
  have nFH : nmF2 ≠ nmH := ne_of_data (by decide)
  have nGH : nmG ≠ nmH := ne_of_data (by decide)
  obtain ⟨p1, i1, l1, f1, e1⟩ := put_any (n := nmF2) (b := []) f0 (by simp) (by decide) (by decide) (by rw [pieL]; decide)
  have w1 : ([].filter fun g : Fl => !(decide (g.name = nmF2))) ++ [(⟨nmF2, p1, []⟩ : Fl)] = [⟨nmF2, p1, []⟩] := rfl
  rw [w1] at f1
  have w2 : ([(⟨nmF2, p1, []⟩ : Fl)].filter fun g => !(decide (g.name = nmG))) = [⟨nmF2, p1, []⟩] := filter_absent (by intro x hx; simp at hx; rw [hx]; exact nFG)
  have u1 : usedL [(⟨nmF2, p1, []⟩ : Fl)] = p1.length := usedL_one _
  obtain ⟨p2, i2, l2, f2, e2⟩ := put_any (n := nmG) (b := g) f1 (by simp) (by decide) (by simp) (by rw [w2, u1, pieL, l1, hg]; decide)
  rw [w2] at f2
  have nd2 : (([(⟨nmF2, p1, []⟩ : Fl)] ++ [(⟨nmG, p2, []⟩ : Fl)]).map (·.name)).Nodup := by simp [nFG]
  have w3 : (([(⟨nmF2, p1, []⟩ : Fl)] ++ [(⟨nmG, p2, []⟩ : Fl)]).filter fun g => !(decide (g.name = nmH))) = [⟨nmF2, p1, []⟩] ++ [(⟨nmG, p2, []⟩ : Fl)] := filter_absent (by
    intro x hx
    simp at hx
    rcases hx with rfl | rfl
    · exact nFH
    · exact nGH)
  have u2 : usedL ([(⟨nmF2, p1, []⟩ : Fl)] ++ [(⟨nmG, p2, []⟩ : Fl)]) = p1.length + p2.length := by rw [used_add, u1]
  obtain ⟨p3, i3, l3, f3, e3⟩ := put_any (n := nmH) (b := h) f2 nd2 (by decide) (by simp) (by rw [w3, u2, pieL, l1, l2, hg, hh]; decide)
  rw [w3] at f3
  have nd3 : (([(⟨nmF2, p1, []⟩ : Fl)] ++ [(⟨nmG, p2, []⟩ : Fl)] ++ [(⟨nmH, p3, []⟩ : Fl)]).map (·.name)).Nodup := by simp [nFG, nFH, nGH]
  have w4 : (([(⟨nmF2, p1, []⟩ : Fl)] ++ [(⟨nmG, p2, []⟩ : Fl)] ++ [(⟨nmH, p3, []⟩ : Fl)]).filter fun g => !(decide (g.name = nmH))) = [⟨nmF2, p1, []⟩] ++ [(⟨nmG, p2, []⟩ : Fl)] := by
    rw [List.filter_append, w3]; simp
  obtain ⟨p4, i4, l4, f4, e4⟩ := put_any (n := nmH) (b := h2) f3 nd3 (by decide) (by simp) (by rw [w4, u2, pieL, l1, l2, hg, hh2]; decide)
  rw [w4] at f4
  generalize hs1 : (dk0 9).putM nmF2 [] = s1 at *
  generalize hs2 : s1.1.putM nmG g = s2 at *
  generalize hs3 : s2.1.putM nmH h = s3 at *
  generalize hs4 : s3.1.putM nmH h2 = s4 at *
  refine ⟨s1.1, s2.1, s3.1, s4.1, Prod.ext rfl e1, hs2.trans (Prod.ext rfl e2), hs3.trans (Prod.ext rfl e3), ?_, hs4.trans (Prod.ext rfl e4), ?_, ?_, ?_⟩
  · rw [Dk.used_L f3.files, used_add, u2, l1, l2, l3, hg, hh]; rfl
  · rw [Dk.used_L f4.files, used_add, u2, l1, l2, l4, hg, hh2]; rfl
  · have hx : s4.1.idx ByteArray.empty = none := by
      unfold Dk.idx
      rw [f4.files]
      refine idx_absent fun x hx => ?_
      simp at hx
      rcases hx with rfl | rfl | rfl
      · exact (ne_of_data (by decide) : nmF2 ≠ ByteArray.empty)
      · exact (ne_of_data (by decide) : nmG ≠ ByteArray.empty)
      · exact (ne_of_data (by decide) : nmH ≠ ByteArray.empty)
    have hl : ¬ (s4.1.len ByteArray.empty).2 = 0 := by
      unfold Dk.len Dk.open
      rw [if_neg (by rw [f4.down]; simp), hx]; simp
    have hc : s4.1.create ByteArray.empty = (s4.1, 2) := by
      unfold Dk.create
      rw [if_neg (by rw [f4.down]; simp), if_pos (by decide)]
    unfold Dk.putM Dk.clear
    rw [if_neg hl, if_neg (by simp)]
    unfold Dk.make
    rw [hc, if_pos (by simp)]
  · unfold Dk.read Dk.open
    have hi : s4.1.idx nmF2 = some 0 := by
      unfold Dk.idx
      rw [f4.files]
      simp [List.findIdx?_cons]
    have hf : s4.1.file 0 = ⟨nmF2, p1, []⟩ := Dk.file_eq (by rw [f4.files]; rfl)
    have hp : p1.map (·.1) = [sealP 3 (beN 8 0)] := i1
    rw [if_neg (by rw [f4.down]; simp), hi]
    simp only
    rw [hf, if_neg (by decide)]
    have h0 : (p1.map (·.1))[0]? = some (sealP 3 (beN 8 0)) := by rw [hp]; rfl
    rw [List.getElem?_map] at h0
    obtain ⟨x, hx1, hx2⟩ := Option.map_eq_some_iff.1 h0
    have hpp : (⟨nmF2, p1, []⟩ : Fl).pages = p1 := rfl
    rw [hpp, show (0 : Int).toNat = 0 from rfl, hx1]
    simp only
    rw [hx2]
theorem seal_48 : (sealP 3 (beN 8 0)).length = 512 ∧ (sealP 3 (beN 8 0))[4]? = some 8 ∧ (sealP 3 (beN 8 0))[6]? = some 3 := by
  refine ⟨sealP_length (by decide), ?_, ?_⟩ <;> (unfold sealP le4 bodyP; rfl)
theorem create_new {s : Dk} {fs : List Fl} {q : Nat} {n : ByteArray} (h : Fine s fs q) (hn : named n = true) (hno : ∀ g ∈ fs, g.name ≠ n) (hf : fs.length < 4096) : Fine (s.create n).1 (fs ++ [(⟨n, [], []⟩ : Fl)]) q ∧ (s.create n).2 = 0 := by
  have hx : s.idx n = none := by unfold Dk.idx; rw [h.files]; exact idx_absent hno
  unfold Dk.create
  rw [if_neg (by rw [h.down]; simp), if_neg (by rw [hn]; simp), if_neg (by rw [hx]; simp), if_neg (by rw [h.files]; omega)]
  obtain ⟨t, ht, e⟩ := Dk.step_fine h fun t => { t with files := t.files ++ [(⟨n, [], []⟩ : Fl)] }
  rw [e]
  exact ⟨⟨by show t.files ++ _ = _; rw [ht.files], ht.down, ht.crash, ht.quota⟩, rfl⟩
/-- A file without a page tells nothing. -/
theorem getM_empty {d : Dk} {fs : List Fl} {q i : Nat} {n : ByteArray} (h : Fine d fs q) (hi : fs.findIdx? (fun f => f.name.toList == n.toList) = some i) (hf : fs[i]? = some ⟨n, [], []⟩) : d.getM n = ([], 280) := by
  have hx : d.idx n = some i := by unfold Dk.idx; rw [h.files]; exact hi
  have hl : (d.len n).2 = 0 := by
    unfold Dk.len Dk.open; rw [if_neg (by rw [h.down]; simp), hx]
  have hp : d.pgs n = [] := by
    unfold Dk.pgs
    rw [hx]
    simp only
    rw [Dk.file_eq (by rw [h.files]; exact hf)]; rfl
  unfold Dk.getM
  rw [if_neg (by rw [hl]; simp), hp]
  rfl
theorem getM_absent {d : Dk} {fs : List Fl} {q : Nat} {n : ByteArray} (h : Fine d fs q) (hno : ∀ g ∈ fs, g.name ≠ n) : d.getM n = ([], 11) := by
  have hx : d.idx n = none := by unfold Dk.idx; rw [h.files]; exact idx_absent hno
  have hl : (d.len n).2 = 11 := by
    unfold Dk.len Dk.open; rw [if_neg (by rw [h.down]; simp), hx]
  unfold Dk.getM
  rw [if_pos (by rw [hl]; simp), hl]
def nmA : ByteArray := ByteArray.mk #[97]
def nmE : ByteArray := ByteArray.mk #[101]
theorem five_plain : ∃ x1 x2 x3 x4 : Dk, (dk0 9).create nmA = (x1, 0) ∧ x1.create nmM = (x2, 0) ∧ x2.recover = ((mf0, false, 0), x3) ∧ x3.getM nmM = ([], 11) ∧ x3.create nmE = (x4, 0) ∧ x4.getM nmE = ([], 280) ∧ x4.list = [[101]] := by
  have f0 := dk0_fine 9
  have q9 : (dk0 9).quota = 9 := rfl
  rw [q9] at f0
  have nAM : nmA ≠ nmM := ne_of_data (by decide)
  obtain ⟨f1, e1⟩ := create_new (n := nmA) f0 (by decide) (by simp) (by decide)
  obtain ⟨f2, e2⟩ := create_new (n := nmM) f1 (by decide) (by intro x hx; simp at hx; rw [hx]; exact nAM) (by simp)
  generalize hx1 : (dk0 9).create nmA = x1 at *
  generalize hx2 : x1.1.create nmM = x2 at *
  have bA : (nmA.toList == nmM.toList) = false := by rw [ByteArray.toList_eq, ByteArray.toList_eq]; decide
  have g2 : x2.1.getM nmM = ([], 280) := getM_empty f2 (i := 1) (by simp [List.findIdx?_cons, bA]) rfl
  have fm : x2.1.foundM = none := by unfold Dk.foundM; rw [g2, if_neg (by decide)]
  obtain ⟨f3, e3⟩ := sweep_all (f := none) f2 (by simp [nAM])
  have hr : x2.1.recover = ((mf0, false, 0), (Dk.sweep none x2.1.list x2.1).1) := by
    unfold Dk.recover
    rw [g2, if_neg (by decide), fm, if_neg (by rw [e3]; simp)]
    rfl
  have fe : (([] ++ [(⟨nmA, [], []⟩ : Fl)] ++ [(⟨nmM, [], []⟩ : Fl)]).filter fun g : Fl => keeps none g.name.data.toList) = [] := rfl
  rw [fe] at f3
  generalize hx3 : (Dk.sweep none x2.1.list x2.1).1 = x3 at *
  obtain ⟨f4, e4⟩ := create_new (n := nmE) f3 (by decide) (by simp) (by decide)
  refine ⟨x1.1, x2.1, x3, (x3.create nmE).1, Prod.ext rfl e1, hx2.trans (Prod.ext rfl e2), hr, getM_absent f3 (by simp), Prod.ext rfl e4, getM_empty f4 (i := 0) (by simp [List.findIdx?_cons]) rfl, ?_⟩
  generalize (x3.create nmE).1 = x4 at f4
  unfold Dk.list
  rw [if_neg (by rw [f4.down]; simp), f4.files]
  have e : (([] ++ [(⟨nmE, [], []⟩ : Fl)]).map fun f : Fl => f.name.toList) = [[101]] := by
    simp only [List.nil_append, List.map_cons, List.map_nil, ByteArray.toList_eq]; rfl
  rw [e]
  exact List.mergeSort_of_pairwise (by simp)
theorem six_plain {b : List UInt8} (hb : b.length = 600) : ((dk0 1).putM nmF2 b).2 = 5 := by
  have f0 := dk0_fine 1
  have q9 : (dk0 1).quota = 1 := rfl
  rw [q9] at f0
  obtain ⟨f1, e1⟩ := create_new (n := nmF2) f0 (by decide) (by simp) (by decide)
  obtain ⟨c1, c2⟩ := clear_fine (n := nmF2) f0 (by simp)
  have hcl : (dk0 1).clear nmF2 = (dk0 1, 0) := rfl
  have hp2 : (pieces (allM b)).length = 2 := by rw [pieL, hb]
  obtain ⟨a1, a2, hp⟩ : ∃ a1 a2, pieces (allM b) = [a1, a2] := by
    match pieces (allM b), hp2 with
    | [x, y], _ => exact ⟨x, y, rfl⟩
  have l1 : a1.length ≤ 504 := pieces_le (l := allM b) (by rw [hp]; simp)
  have l2 : a2.length ≤ 504 := pieces_le (l := allM b) (by rw [hp]; simp)
  have hm : (dk0 1).putM nmF2 b = ((dk0 1).create nmF2).1.fill nmF2 b := by
    unfold Dk.putM
    rw [hcl, if_neg (by simp)]
    unfold Dk.make
    rw [if_neg (by rw [e1]; simp)]
  rw [hm]
  generalize ((dk0 1).create nmF2).1 = u at *
  have T : Tail u [] ⟨nmF2, [], []⟩ nmF2 := ⟨f1.files, rfl, by simp⟩
  have hw : (wrPages nmF2 [a1, a2] 0 u).2 = 5 := by
    rcases write_tail (p := a1) T f1.down l1 (by rw [f1.quota]; decide) with ⟨e0, g1, t1, s1, h1, d1, q1, c1⟩ | ⟨_, c4⟩
    · have hz : (⟨nmF2, [], []⟩ : Fl).pages.length = 0 := rfl
      rw [hz] at e0 t1 d1 q1
      unfold wrPages
      have e0' : ¬ (u.write nmF2 ((0 : Nat) : Int) (sealP 3 a1)).2 ≠ 0 := by rw [e0]; simp
      rw [if_neg e0']
      generalize (u.write nmF2 ((0 : Nat) : Int) (sealP 3 a1)).1 = v at *
      have hl : g1.pages.length = 1 := by have := congrArg List.length h1; rw [List.length_map, List.length_append, List.length_map, hz] at this; exact this
      have hw2 : v.write nmF2 ((0 + 1 : Nat) : Int) (sealP 3 a2) = (v, 5) := by
        unfold Dk.write
        rw [if_neg (by rw [d1]; simp), dif_pos (sealP_length l2), t1.idx]
        simp only [t1.file]
        rw [if_neg (by rw [hl]; simp), if_pos]
        refine ⟨by rw [hl], ?_⟩
        rw [Dk.used_L t1.files, usedL_append, usedL_one, hl, q1, f1.quota]
        decide
      unfold wrPages
      rw [hw2, if_pos (by simp)]
    · exact absurd f1.crash c4
  unfold Dk.fill
  rw [hp, if_pos (by rw [hw]; simp), hw]
end Go.Proofs.YtjjfngnokbboeaaDoor

/-
  ManifestKnown: the walk.
-/
namespace Go.Proofs.YtjjfngnokbboeaaDoor
open Go.MapKept

/-- A manifest that was found or not is laid in a variable: what is behind stays. -/
theorem dec_none_ok {b : Sl} {l : List UInt8} {H : Heap} {R : ((Int × Int × ByteArray × ByteArray × Sl) × Int) → Heap → Prop} (hb : Byts H b l) (hc : b.n ≤ b.c) (hl : l.length < 4611686018427387904) (hd : decM l = none) (hK : ∀ A', Ext H A' → R failM A') : manifest_Decode.sp b H R :=
  Decode_ok hb hc hl (fun _ A' e => hK A' e) (fun m rs A' h => by rw [hd] at h; cases h)
theorem lay_mf {H : Heap} {o n : Int} {i t : ByteArray} {s : Sl} {K : Heap → Prop} (hK : ∀ A, Ext H A → K A) :
    newC H #[.int .u8 0, .int .i64 0, .string ByteArray.empty, .string ByteArray.empty, .slice none 0 0] ty_api_Manifest fun p H1 => doU Tryd.prog (Instr.storeAt ty_api_Manifest (.pointer (some p)) (.agg #[(.int .u8 o), (.int .i64 n), (.string i), (.string t), s.v])) H1 K := by
  refine newC_rowT fun H1 s1 r1 e1 => ?_
  refine mf_put (s := s) r1 rfl fun H2 r2 m2 s2 => hK H2 ?_
  exact ((Ext.mod (F := fun b => b = H.size) e1).trans m2).ext fun b hb => by omega
def sv (r f : ByteArray) (n : Int) : Sv := ⟨r, f, n⟩
theorem Commit_none {o n : Int} {i t : ByteArray} {s : Sl} {H : Heap} {K : Int → Heap → Prop} (hK : ∀ H', Ext H H' → K 1 H') : manifest_Commit.sp none o n i t s H K := by
  refine manifest_Commit.of ?_
  unfold manifest_Commit.vc
  refine newC_varT fun p H1 hp s1 v1 e1 => ?_
  refine newC_rowT fun H2 s2 r2 e2 => ?_
  refine (v1.ext e2).ld (c := cPtr) (x := none) ?_
  exact br_mk (fun _ => hK H2 (Mod.trans e1 e2)) (fun q => by simp at q)
theorem made257 {A : Heap} : RdE ESv (A.push (.cells (madeCells #[.string ByteArray.empty, .string ByteArray.empty, .int .i64 0] ((257 : Int).toNat * 3)) ty_api_Saved)) (some ⟨A.size, 0, none⟩) (List.replicate 257 ⟨ByteArray.empty, ByteArray.empty, 0⟩) := by
  intro i v hv
  refine ⟨_, rfl, ?_⟩
  rw [add_lit0]
  have hi : i < 257 * 3 := by
    have h1 := (List.getElem?_eq_some_iff.1 hv).1
    rw [Enc.all_length, List.length_replicate] at h1
    exact h1
  have hr : i % 3 < ESv.size := Nat.mod_lt i (by decide)
  have hdm : i = i / 3 * 3 + i % 3 := (Nat.div_add_mod' i 3).symm
  have hg := Enc.all_get ESv (List.replicate 257 (⟨ByteArray.empty, ByteArray.empty, 0⟩ : Sv)) (i / 3) (i % 3) hr
  have e3 : ESv.size = 3 := rfl
  rw [e3, ← hdm, hv] at hg
  have hq : (List.replicate 257 (⟨ByteArray.empty, ByteArray.empty, 0⟩ : Sv))[i / 3]? = some ⟨ByteArray.empty, ByteArray.empty, 0⟩ := by
    rw [List.getElem?_replicate, if_pos (by omega)]
  rw [hq] at hg
  have hm : (madeCells #[.string ByteArray.empty, .string ByteArray.empty, .int .i64 0] ((257 : Int).toNat * 3))[i]? = some v := by
    have hn : (257 : Int).toNat * 3 = 771 := rfl
    rw [hn]
    unfold madeCells
    rw [Array.getElem?_map, Array.getElem?_range, if_pos (by omega)]
    rw [hg]
    have h3 : i % 3 = 0 ∨ i % 3 = 1 ∨ i % 3 = 2 := by omega
    have hs3 : (#[Value.string ByteArray.empty, .string ByteArray.empty, .int .i64 0] : Array Value).size = 3 := rfl
    rw [Option.map_some, hs3]
    rcases h3 with h | h | h <;> rw [h] <;> rfl
  exact hCell_of (t := ty_api_Saved) (fz := (0, 0)) (by simp) hm
theorem known_puts {H H5 A : Heap} {p1 d N : Nat} {m : Mf} {rs : Sl} {s s' : Dk} {e : Int} {n : ByteArray} {K : Int → Heap → Prop} (c : CrS H H5 p1 p1 m m rs rs d A s) (y5 : H.size ≤ H5.size) (hp1 : p1 < H5.size) (hg : Gl H) (hN : N ≤ 1024) (hlog : s.logs ≤ 1000) (hs : s.putM n (List.replicate N 97) = (s', e))
    (hK : ∀ B, CrS H H5 p1 p1 m m rs rs d B s' → s'.logs ≤ s.logs + 5 → K e B) :
    fathomlaw28_text.sp (N : Int) A fun t A1 => doT cSl Tryd.prog (convert ty_string ty_sl_uint8 (.string t)) A1 fun x A2 => manifest_Put.sp (at0 d) n x A2 K := by
  have hgl := hg.lt
  refine textN_ok hN ?_
  obtain ⟨F, d1, n1, g1⟩ := c.go y5 hp1 hp1
  refine toBytesC_ok fun sb A2 hb eb fb cb => ?_
  have c2 := c.ext eb
  refine Put_ok (d1.keep fun b _ hl => eb.same b hl id) hb (fun _ ad ha q => by have := d1.lt _ q; have := fb ad.block ⟨ad, ha, rfl⟩; omega) (by simp; omega) (by omega) (hg.mod c2.e id) (n1 _ (by omega)) fun F3 B d3 S3 => ?_
  have c3 := c2.via y5 hp1 hp1 n1 _ _ _ d3 S3
  have hl := putM_logs s n (List.replicate N 97)
  rw [hs] at c3 hl ⊢
  refine hK B c3 ?_
  simp only [List.length_replicate] at hl
  omega
theorem known_put0 {H H5 A : Heap} {p1 d : Nat} {m : Mf} {rs : Sl} {s s' : Dk} {e : Int} {n : ByteArray} {K : Int → Heap → Prop} (c : CrS H H5 p1 p1 m m rs rs d A s) (y5 : H.size ≤ H5.size) (hp1 : p1 < H5.size) (hg : Gl H) (hlog : s.logs ≤ 1000) (hs : s.putM n [] = (s', e))
    (hK : ∀ B, CrS H H5 p1 p1 m m rs rs d B s' → s'.logs ≤ s.logs + 5 → K e B) : manifest_Put.sp (at0 d) n (Sl.mk none 0 0) A K := by
  have hgl := hg.lt
  obtain ⟨F, d1, n1, g1⟩ := c.go y5 hp1 hp1
  refine Put_ok d1 (byts0 A) (fun h => absurd rfl h) (by decide) (by omega) (hg.mod c.e id) (n1 _ (by omega)) fun F3 B d3 S3 => ?_
  have c3 := g1 _ _ _ d3 S3
  have hl := putM_logs s n []
  rw [hs] at c3 hl ⊢
  refine hK B c3 ?_
  simp only [List.length_nil] at hl
  omega
set_option maxRecDepth 100000 in
set_option maxHeartbeats 4000000 in
theorem ManifestKnown_ok {H : Heap} {K : Bool → Heap → Prop} (hg : Gl H) (hK : ∀ H', Ext H H' → K true H') : fathomlaw28_ManifestKnown.sp H K := by
  have hgl := hg.lt
  refine fathomlaw28_ManifestKnown.of ?_
  unfold fathomlaw28_ManifestKnown.vc
  refine newC_rowT fun H1 s1 r1 e1 => ?_
  rw [zc_mf]
  refine newC_rowT fun H2 s2 r2 e2 => ?_
  refine mf_put (s := Sl.mk (some ⟨H.size, 0, none⟩) 1 1) r2 rfl fun H3 r3 m3 s3 => ?_
  have e13 : Ext H1 H3 := ((Ext.mod (F := fun b => b = H1.size) e2).trans m3).ext fun b hb => by omega
  have e03 : Ext H H3 := Mod.trans e1 e13
  have q3 : RowT H3 H.size ty_api_Saved #[.string (ByteArray.mk #[112]), .string (ByteArray.mk #[102]), .int .i64 2] := r1.ext e13
  refine mf_ld r3 ?_
  refine Encode_ok (m := mfW) (rs := Sl.mk (some ⟨H.size, 0, none⟩) 1 1) ⟨q3.rdM rfl, rfl⟩ (by decide) (by decide) (fun hm => absurd hm (by decide)) (fun _ r H4 o4 f4 c4 e4 => ?_)
  refine br_mk (fun _ => ?_) (fun q => by simp at q)
  refine strB_eq (SlB_byts o4) ?_
  have hs : strB (encM mfW) = ByteArray.mk #[1, 3, 0, 0, 0, 1, 0, 0, 0, 1, 105, 0, 0, 0, 0, 0, 0, 0, 1, 0, 0, 0, 1, 112, 0, 0, 0, 1, 102, 0, 0, 0, 2] := by kernel_rfl
  have hlen : (encM mfW).length = 33 := by decide
  have hrn : r.n = 33 := by rw [o4.n (by decide), hlen]
  rw [hs]
  refine br_mk (fun q => by simp at q) (fun _ => ?_)
  refine SlE.append (E := EB) elByte (s := Sl.mk none 0 0) (x := r) (l := []) (SlE.nil _ _ _) o4.rd (o4.n (by decide)) (by simp [hlen]) (by simp [hlen]) fun more H5 o5 g5 _ => ?_
  rw [List.nil_append] at o5
  refine SlE.push (E := EB) elByte (x := 0) o5 rfl (by rw [hlen]; decide) (by rw [hlen]; decide) fun more1 H7 o7 g7 _ => ?_
  have e45 : Ext H4 H5 := g5.1.ext fun b hb => by obtain ⟨ad, q, _⟩ := hb; cases q
  have e47 : Ext H4 H7 := ⟨Nat.le_trans e45.size g7.1.size, fun b hb _ => (g7.1.same b (Nat.lt_of_lt_of_le hb e45.size) fun q => by
    rcases g5.2 b q with ⟨ad, q1, _⟩ | q1
    · cases q1
    · omega).trans (e45.same b hb id)⟩
  have e37 : Ext H3 H7 := Mod.trans e4 e47
  have hw : IntKind.i64.wrap ((r.n : Int) - 1) = ((32 : Nat) : Int) := by rw [hrn]; rfl
  rw [hw]
  refine ⟨⟨by omega, by show ((32 : Nat) : Int) ≤ (r.c : Int); omega⟩, ?_⟩
  have e0 : slA r.a r.c 0 1 = r.a := by
    unfold slA
    split
    · rfl
    · cases r.a <;> rfl
  rw [e0]
  refine dec_none_ok (l := (encM mfW).take 32) ((SlB_byts (o4.ext e47)).take 32 (by omega) _) (by show 32 - 0 ≤ r.c - 0; omega) (by decide) (by decide) fun H8 e8 => ?_
  refine lay_mf fun H10 e10 => ?_
  refine dec_none_ok (l := encM mfW ++ [0]) (SlB_byts ((o7.ext e8).ext e10)) (Owns.cap o7) (by decide) (by decide) fun H11 e11 => ?_
  refine lay_mf fun H13 e13' => ?_
  refine dec_none_ok (l := []) (byts0 _) (Nat.le_refl _) (by decide) (by decide) fun H14 e14 => ?_
  refine lay_mf fun H16 e16 => ?_
  have e316 : Ext H3 H16 := Mod.trans (Mod.trans (Mod.trans (Mod.trans (Mod.trans (Mod.trans e37 e8) e10) e11) e13') e14) e16
  refine newC_rowT fun H17 s17 r17 e17 => ?_
  refine marked_ok (l := [2, 3, 0, 0, 0, 1, 0, 0, 0, 1, 105, 0, 0, 0, 0, 0, 0, 0, 0]) r17 rfl fun H18 b18 m18 s18 => ?_
  have e1618 : Ext H16 H18 := ((Ext.mod (F := fun b => b = H16.size) e17).trans m18).ext fun b hb => by omega
  refine dec_none_ok b18 (Nat.le_refl _) (by decide) (by decide) fun H19 e19 => ?_
  refine lay_mf fun H21 e21 => ?_
  refine newC_rowT fun H22 s22 r22 e22 => ?_
  refine marked_ok (l := [1, 3, 0, 0, 0, 1, 0, 0, 0, 0, 0, 0, 0, 0, 0, 0, 0, 0]) r22 rfl fun H23 b23 m23 s23 => ?_
  have e2123 : Ext H21 H23 := ((Ext.mod (F := fun b => b = H21.size) e22).trans m23).ext fun b hb => by omega
  refine dec_none_ok b23 (Nat.le_refl _) (by decide) (by decide) fun H24 e24 => ?_
  refine lay_mf fun H26 e26 => ?_
  have e326 : Ext H3 H26 := Mod.trans (Mod.trans (Mod.trans (Mod.trans (Mod.trans (Mod.trans e316 e1618) e19) e21) e2123) e24) e26
  refine ⟨fun z A => z = true ∧ Ext H3 A, ?_, ?_⟩
  · have no : ∀ {b : Bool} {A : Heap}, b = true → ∀ P : Prop, b = false → P := fun h P q => by rw [h] at q; cases q
    refine bad_true (m := ⟨0, 0, ByteArray.empty, ByteArray.empty, []⟩) (Rels.nil _) (by decide) (by decide) (by decide) fun A1 x1 => ?_
    refine br_mk (fun _ => ?_) (fun q => by cases q)
    refine bad_true (m := ⟨0, -1, nmI, ByteArray.empty, []⟩) (Rels.nil _) (by decide) (by decide) (by decide) fun A2 x2 => ?_
    refine br_mk (fun _ => ?_) (fun q => by cases q)
    refine bad_true (m := ⟨0, 257, nmI, ByteArray.empty, []⟩) (Rels.nil _) (by decide) (by decide) (by decide) fun A3 x3 => ?_
    refine br_mk (fun _ => ?_) (fun q => by cases q)
    refine textN_ok (n := 101) (by decide) ?_
    refine bad_true (m := ⟨0, 0, strB (List.replicate 101 97), ByteArray.empty, []⟩) (Rels.nil _) (by decide) (by decide) (by decide) fun A4 x4 => ?_
    refine br_mk (fun _ => ?_) (fun q => by cases q)
    refine textN_ok (n := 101) (by decide) ?_
    refine bad_true (m := ⟨0, 0, nmI, strB (List.replicate 101 97), []⟩) (Rels.nil _) (by decide) (by decide) (by decide) fun A5 x5 => ?_
    refine br_mk (fun _ => ?_) (fun q => by cases q)
    refine newC_rowT fun B1 t1 g1 y1 => ?_
    refine bad_true (m := ⟨0, 0, nmI, ByteArray.empty, [⟨ByteArray.mk #[112], ByteArray.empty, 0⟩]⟩) ⟨g1.rdM rfl, rfl⟩ (by decide) (by decide) (by decide) fun A6 x6 => ?_
    refine br_mk (fun _ => ?_) (fun q => by cases q)
    refine newC_rowT fun B2 t2 g2 y2 => ?_
    refine bad_true (m := ⟨0, 0, nmI, ByteArray.empty, [⟨ByteArray.empty, ByteArray.mk #[112], 0⟩]⟩) ⟨g2.rdM rfl, rfl⟩ (by decide) (by decide) (by decide) fun A7 x7 => ?_
    refine br_mk (fun _ => ?_) (fun q => by cases q)
    refine newC_rowT fun B3 t3 g3 y3 => ?_
    refine bad_true (m := ⟨0, 0, nmI, ByteArray.empty, [⟨ByteArray.mk #[112], ByteArray.mk #[102], -1⟩]⟩) ⟨g3.rdM rfl, rfl⟩ (by decide) (by decide) (by decide) fun A8 x8 => ?_
    refine br_mk (fun _ => ?_) (fun q => by cases q)
    refine newC_rowT fun B4 t4 g4 y4 => ?_
    refine bad_true (m := ⟨0, 0, nmI, ByteArray.empty, [⟨ByteArray.mk #[112], ByteArray.mk #[102], 2147483648⟩]⟩) ⟨g4.rdM rfl, rfl⟩ (by decide) (by decide) (by decide) fun A9 x9 => ?_
    refine br_mk (fun _ => ?_) (fun q => by cases q)
    obtain ⟨inf, z, hu, hi, hz, hzs, hsz, hbt, _⟩ := elSv
    refine doT_make hu hi hz (by decide) (by decide) (by rw [hbt]; decide) (by decide) ?_
    have hrow : RdE ESv (A9.push (.cells (madeCells z.cells ((257 : Int).toNat * inf.size)) ty_api_Saved)) (some ⟨A9.size, 0, none⟩) (List.replicate 257 ⟨ByteArray.empty, ByteArray.empty, 0⟩) := by
      have hzc : z.cells = #[.string ByteArray.empty, .string ByteArray.empty, .int .i64 0] := by
        have h := zc_sv
        unfold zc at h
        rw [hi] at h
        have h2 : (some inf).bind (fun x => x.zero) = some z := hz
        rw [h2] at h
        exact h
      have h3 : inf.size = 3 := hsz
      rw [hzc, h3]
      exact made257
    refine bad_true (m := ⟨0, 0, nmI, ByteArray.empty, List.replicate 257 ⟨ByteArray.empty, ByteArray.empty, 0⟩⟩) ⟨hrow, by simp⟩ (by simp) (by decide) (by decide) fun A10 x10 => ?_
    refine ⟨rfl, ?_⟩
    have ep : Ext A9 (A9.push (.cells (madeCells z.cells ((257 : Int).toNat * inf.size)) ty_api_Saved)) := Mod.push _ _ _
    exact Mod.trans (Mod.trans (Mod.trans (Mod.trans (Mod.trans (Mod.trans (Mod.trans (Mod.trans (Mod.trans (Mod.trans (Mod.trans (Mod.trans (Mod.trans (Mod.trans (Mod.trans e326 x1) x2) x3) x4) x5) y1) x6) y2) x7) y3) x8) y4) x9) ep) x10
  rintro _ H27 ⟨rfl, e327⟩
  obtain ⟨u1, u2, u3, u4, v1, v2, v3, v4, v5, v6, v7, v8⟩ := four_plain (List.replicate 496 97) (List.replicate 497 97) (List.replicate 9 97) (by simp) (by simp) (by simp)
  have e027 : Ext H H27 := Mod.trans e03 e327
  have r27 := r3.ext e327
  have hp27 : H1.size < H27.size := (Array.getElem?_eq_some_iff.1 r27).1
  have y27 := e027.size
  refine New_ok (by decide) fun F d H45 d45 e45' f45 => ?_
  have c45 : CrS H H27 H1.size H1.size mfW mfW (Sl.mk (some ⟨H.size, 0, none⟩) 1 1) (Sl.mk (some ⟨H.size, 0, none⟩) 1 1) d H45 (dk0 9) := ⟨⟨F, d45, f45⟩, Mod.trans e027 e45', e45'.size, r27.ext e45', r27.ext e45'⟩
  have l0 : (dk0 9).logs = 0 := rfl
  refine ⟨fun z A => z = true ∧ CrS H H27 H1.size H1.size mfW mfW (Sl.mk (some ⟨H.size, 0, none⟩) 1 1) (Sl.mk (some ⟨H.size, 0, none⟩) 1 1) d A u4, ?_, ?_⟩
  · refine known_put0 c45 y27 hp27 hg (by omega) v1 fun A1 c1 l1 => ?_
    refine br_mk (fun _ => ?_) (fun q => by simp at q)
    refine known_puts (N := 496) c1 y27 hp27 hg (by decide) (by omega) v2 fun A2 c2 l2 => ?_
    refine br_mk (fun _ => ?_) (fun q => by simp at q)
    refine known_puts (N := 497) c2 y27 hp27 hg (by decide) (by omega) v3 fun A3 c3 l3 => ?_
    refine br_mk (fun _ => ?_) (fun q => by simp at q)
    obtain ⟨F3, d3, n3, g3⟩ := c3.go y27 hp27 hp27
    refine Used_ok d3 ?_
    rw [v4]
    refine br_mk (fun _ => ?_) (fun q => by simp at q)
    refine known_puts (N := 9) c3 y27 hp27 hg (by decide) (by omega) v5 fun A4 c4 l4 => ?_
    refine br_mk (fun _ => ?_) (fun q => by simp at q)
    obtain ⟨F4, d4, n4, g4⟩ := c4.go y27 hp27 hp27
    refine Used_ok d4 ?_
    rw [v6]
    refine br_mk (fun _ => ?_) (fun q => by simp at q)
    exact known_put0 c4 y27 hp27 hg (by omega) v7 fun A5 c5 _ => ⟨rfl, c5⟩
  rintro _ H46 ⟨rfl, c46⟩
  obtain ⟨F46, d46, n46, g46⟩ := c46.go y27 hp27 hp27
  refine Read_ok d46 fun r H60 o60 e60 f60 => ?_
  have v8' : u4.read (ByteArray.mk #[102]) 0 = (sealP 3 (beN 8 0), 0) := v8
  rw [v8'] at o60 ⊢
  obtain ⟨q512, q4, q6⟩ := seal_48
  have rn : r.n = 512 := by rw [o60.n (by decide), q512]
  have c60 := c46.ext e60
  refine ⟨fun z A => z = true ∧ A = H60, ?_, ?_⟩
  · obtain ⟨ad, hadd⟩ := o60.rd.addr (by decide) (by rw [q512]; decide)
    rw [rn]
    refine br_mk (fun _ => ?_) (fun q => by simp at q)
    refine optK_mk ad hadd ⟨⟨by decide, by decide⟩, ?_⟩
    refine o60.rd.ld (c := cInt .u8) hadd (j := 0) (y := 8) q4 rfl (n := (4 : Int).toNat * 1) rfl ?_
    refine br_mk (fun _ => ?_) (fun q => by simp at q)
    refine optK_mk ad hadd ⟨⟨by decide, by decide⟩, ?_⟩
    refine o60.rd.ld (c := cInt .u8) hadd (j := 0) (y := 3) q6 rfl (n := (6 : Int).toNat * 1) rfl ?_
    exact ⟨rfl, rfl⟩
  rintro _ H61 ⟨rfl, hA61⟩
  subst hA61
  obtain ⟨t1, t2, t3, t4, k1, k2, k3, k4, k5, k6, k7⟩ := five_plain
  have z60 := c60.z
  have y60 := c60.e.size
  have hp60 : H1.size < H61.size := by omega
  refine New_ok (by decide) fun F2 dx H62 d62 e62 f62 => ?_
  have c62 : CrS H H61 H1.size H1.size mfW mfW (Sl.mk (some ⟨H.size, 0, none⟩) 1 1) (Sl.mk (some ⟨H.size, 0, none⟩) 1 1) dx H62 (dk0 9) := ⟨⟨F2, d62, f62⟩, Mod.trans c60.e e62, e62.size, c60.r1.ext e62, c60.r2.ext e62⟩
  obtain ⟨Fa, da, na, ga⟩ := c62.go y60 hp60 hp60
  refine Create_ok (n := nmA) da fun Fb H63 db Sb => ?_
  have c63 := ga _ _ _ db Sb
  rw [k1] at c63
  obtain ⟨Fc, dc, nc, gc⟩ := c63.go y60 hp60 hp60
  refine Create_ok (n := nmM) dc fun Fe H64 de Se => ?_
  have c64 := gc _ _ _ de Se
  have k2' : (t1, (0 : Int)).1.create nmM = (t2, 0) := k2
  rw [k2'] at c64
  obtain ⟨Ff, df, nf, gf⟩ := c64.go y60 hp60 hp60
  refine Recover_ok df (hg.mod c64.e id) fun Fg H65 rs1 dg Sg o65 b65 => ?_
  have c65 := gf _ _ _ dg Sg
  have k3' : (t2, (0 : Int)).1.recover = ((mf0, false, 0), t3) := k3
  rw [k3'] at c65 ⊢
  refine lay_mf fun H67 e67 => ?_
  have c67 := c65.ext e67
  obtain ⟨Fh, dh, nh, gh⟩ := c67.go y60 hp60 hp60
  refine Get_ok (n := nmM) dh (hg.mod c67.e id) fun r1x H68 _ _ _ _ e68 => ?_
  have k4' : ((mf0, false, (0 : Int)), t3).2.getM nmM = ([], 11) := k4
  rw [k4']
  have c68 := c67.ext e68
  obtain ⟨Fi, di, ni, gi⟩ := c68.go y60 hp60 hp60
  refine Create_ok (n := nmE) di fun Fj H69 dj Sj => ?_
  have c69 := gi _ _ _ dj Sj
  have k5' : ((mf0, false, (0 : Int)), t3).2.create nmE = (t4, 0) := k5
  rw [k5'] at c69
  obtain ⟨Fk, dk, nk, gk⟩ := c69.go y60 hp60 hp60
  refine Get_ok (n := nmE) dk (hg.mod c69.e id) fun r2x H70 _ _ _ _ e70 => ?_
  have k6' : (t4, (0 : Int)).1.getM nmE = ([], 280) := k6
  rw [k6']
  have c70 := c69.ext e70
  refine ⟨fun z A => z = true ∧ Ext H70 A, ?_, ?_⟩
  · refine br_mk (fun _ => ?_) (fun q => by simp at q)
    obtain ⟨Fl', dl, nl, gl⟩ := c70.go y60 hp60 hp60
    refine List_ok dl fun l H72 o72 e72 f72 => ?_
    have k7' : (t4, (0 : Int)).1.list = [[101]] := k7
    rw [k7'] at o72
    refine newC_rowT fun H73 s73 r73 e73 => ?_
    exact SameTexts2_ok (L := [[101]]) (o72.ext e73) (RowT.rdM r73 rfl) rfl (by decide) ⟨rfl, Mod.trans e72 e73⟩
  rintro _ H71 ⟨rfl, e71⟩
  have c71 := c70.ext e71
  refine Get_none ?_
  refine Recover_none fun H76 e76 => ?_
  refine lay_mf fun H78 e78 => ?_
  have c78 := (c71.ext e76).ext e78
  have z78 := c78.z
  have y78 := c78.e.size
  have hp78 : H1.size < H78.size := by omega
  refine New_ok (by decide) fun F3 df3 H79 d79 e79 f79 => ?_
  have c79 : CrS H H78 H1.size H1.size mfW mfW (Sl.mk (some ⟨H.size, 0, none⟩) 1 1) (Sl.mk (some ⟨H.size, 0, none⟩) 1 1) df3 H79 (dk0 1) := ⟨⟨F3, d79, f79⟩, Mod.trans c78.e e79, e79.size, c78.r1.ext e79, c78.r2.ext e79⟩
  have l1 : (dk0 1).logs = 0 := rfl
  refine ⟨fun z A => z = true ∧ Ext H A, ?_, ?_⟩
  · refine br_mk (fun _ => ?_) (fun q => by simp at q)
    refine Put_none fun H81 e81 => ?_
    refine br_mk (fun _ => ?_) (fun q => by simp at q)
    have c81 := c79.ext e81
    refine mf_ld c81.r1 ?_
    refine Commit_none fun H82 e82 => ?_
    refine br_mk (fun _ => ?_) (fun q => by simp at q)
    have c82 := c81.ext e82
    have h600 : (dk0 1).putM (ByteArray.mk #[102]) (List.replicate 600 97) = (((dk0 1).putM nmF2 (List.replicate 600 97)).1, (5 : Int)) := Prod.ext rfl (six_plain List.length_replicate)
    refine known_puts (N := 600) (e := 5) c82 y78 hp78 hg (by decide) (by omega) h600 fun B cB _ => ?_
    exact ⟨rfl, cB.e⟩
  rintro _ H80 ⟨rfl, e80⟩
  refine br_mk (fun _ => mworks_ok (hg.mod e80 id) fun H' e => hK H' (Mod.trans e80 e)) (fun q => by simp [failM] at q)
end Go.Proofs.YtjjfngnokbboeaaDoor

/-
  ManifestKnown: the law returns true; the laid variables are laid as the program's text lays them. No condition beside that.
-/
namespace Go.Proofs.YtjjfngnokbboeaaDoor
open Go.ChangeShapes Go.WideShapes Go.ChangeAt Go.RowKit

set_option maxRecDepth 100000 in
theorem manifestKnown_lifted (os : Os) (started : os.Started) (H : Type) (enc : TypeId × Value → H) :
    ReturnsInHanded {} Tryd.checked os 5 .any (fun w args => (Rows.manifestKnownSpec.pre enc Tryd.prog Tryd.f5 [] false w args ∧ laidMetH Tryd.prog laidM w) ∧ sizedMet enc Tryd.prog Tryd.f5 (OpenSpec.ofChange Rows.manifestKnownSpec) false w args)
      (Rows.manifestKnownSpec.post enc Tryd.prog Tryd.f5 false true false false) := by
  refine returnsInHanded_of_change_and (C := Tryd.checked) (X := fun w _ => laidMetH Tryd.prog laidM w) (fun _ _ _ hh h => h.of_heap hh) pprog_own started (by kernel_rfl) Tryd.func5
    (ChangeSpec.witness_shaped (enc := enc) (C := Tryd.checked) (os := os) (X := fun w _ => laidMetH Tryd.prog laidM w) false (World.doorLaid Tryd.prog 400 os) #[] 8 rfl (World.shaped_of_RefB (by kernel_rfl) (by kernel_rfl)) (by kernel_rfl) (by kernel_rfl) (by kernel_rfl) (door_met os _)) ?_
  intro W base args ds gs before hval0 hW _ _ hL _
  have hW' := hW
  obtain ⟨p, q, hA0, hV, rfl, hfz, hnd⟩ := hW
  have hA : DataW.TrodAll enc Tryd.prog W 0 (fun _ => true) true Tryd.f5.params.toList args.toList ds p := hA0
  rw [Tryd.params5] at hA
  obtain ⟨rfl, rfl, rfl⟩ := trodAll_none hA
  obtain ⟨rfl, rfl⟩ := trodVars_none hV
  have hspec := ManifestKnown_ok (H := W.heap) (K := fun b H' => b = true ∧ Ext W.heap H') (gl_of_laid hL) (fun H' e => ⟨rfl, e⟩)
  refine (hspec W rfl).mono fun e W' ⟨v, he, ⟨x, hx, hb, hext⟩, hal⟩ => ?_
  subst he; subst hx; subst hb
  exact ⟨_, rfl, law_post pprog_laidOut (by decide +kernel) rfl (by kernel_rfl) rfl rfl rfl rfl hW' hext hal⟩

theorem manifestKnown_row : Rows.ManifestKnownSaid :=
  OpenClaim.holds_of_wide 5 Tryd.f5 rfl rfl rfl rfl rfl rfl rfl ⟨rfl, rfl, rfl, rfl, rfl⟩ rfl rfl rfl rfl rfl (by kernel_rfl) Tryd.func5 (by kernel_rfl)
    (of_decide_eq_true (by kernel_rfl)) (by unfold Func.isWrapper; first | (rw [if_pos (by decide +kernel)]; kernel_rfl) | (rw [if_neg (by decide +kernel)]; exact ⟨rfl, rfl⟩))
    (fun os started H enc _ => manifestKnown_lifted os started H enc)

/-- The card: the table tied to the program's text. -/
theorem manifestKnown_holds : Rows.ManifestKnownCardSaid :=
  Claim7.holds_tied_plain_at .later [] [.data, .sentinel] true _ false
    manifestKnown_row (fun _ h => by cases h) (by kernel_rfl) (fun _ h => by cases h) manifestKnown_row_tie rfl ⟨rfl, rfl⟩ (by kernel_rfl) rfl
    (fun f fn hf hfn => by
      obtain rfl : f = 5 := Option.some.inj ((show Tryd.prog.funcNamed "fathom/fathomlaw28.ManifestKnown" = some 5 by kernel_rfl).symm.trans hf) |>.symm
      obtain rfl : fn = Tryd.f5 := (Option.some.inj (Tryd.func5.symm.trans hfn)).symm
      exact ⟨by kernel_rfl, fun j t ht => by
        rw [Tryd.params5] at ht
        simp at ht⟩)
    (by kernel_rfl)
#print axioms manifestKnown_holds
end Go.Proofs.YtjjfngnokbboeaaDoor
