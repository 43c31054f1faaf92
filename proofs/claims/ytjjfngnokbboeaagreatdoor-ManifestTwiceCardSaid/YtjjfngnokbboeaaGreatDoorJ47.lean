/-
  What the given statements on manifests share: what is laid, and how their arguments are opened.
-/
import Derived.LaidHandle
import Derived.LaidLaws
import Derived.LaidMore
import Derived.MakeChecks
import Derived.OpenShut
import Derived.SevenTiedAt
import Derived.Stop.Joined
import Derived.Test.YtjjfngnokbboeaaGreatDoorCards
import Derived.Test.YtjjfngnokbboeaaGreatDoorRows
import Derived.Test.YtjjfngnokbboeaaGreatDoorTie
import Derived.Test.YtjjfngnokbboeaaGreatDoorDkt
import Derived.Test.YtjjfngnokbboeaaGreatDoorJ43
import Derived.Test.YtjjfngnokbboeaaGreatDoorFxh
import Derived.Test.YtjjfngnokbboeaaGreatDoorFxn
import Derived.Test.YtjjfngnokbboeaaGreatDoorFxt
namespace Go.Proofs.YtjjfngnokbboeaaGreatDoor
open Go.ChangeShapes Go.WideShapes Go.ChangeAt Go.RowKit

theorem pprog_own : ownKnob Tryz.prog.godebug = none := by kernel_rfl
theorem pprog_laidOut : laidOutB Tryz.prog = true := by kernel_rfl
def laidM : List (String × DataW Unit) := [("fathom/page.steps", Rows.laid_fathom_page_steps), ("bytes.ErrTooLarge", Rows.laid_bytes_ErrTooLarge)]
def litS : List (DataW Unit) := stepsL.map fun b => .lit (.int .u32 (b.toNat : Int))
theorem litS_eq : (Rows.laid_fathom_page_steps : DataW Unit) = .agg litS := by rfl
theorem gl_of_laid {W : World} (h : laidMetH Tryz.prog laidM W) : Gl W.heap := by
  rw [MakeChecks.laidMetH_plain _ _ _ (by kernel_rfl)] at h
  obtain ⟨ps, ⟨g0, t0, cs0, f0, p0, q0, hg0, ht0, hv0, hd0, _, _⟩, _, _⟩ := h
  obtain rfl := Option.some.inj ((show Tryz.prog.globalNamed "fathom/page.steps" = some gSteps by kernel_rfl).symm.trans hg0)
  obtain rfl := Option.some.inj ((show (Tryz.prog.globals[gSteps]?).map (·.type) = some 163 by kernel_rfl).symm.trans ht0)
  obtain ⟨xs, m, _, hx, hlen, hn, hel⟩ := DataW.trod_array (n := 16) (e := 127) (by kernel_rfl) hd0
  have hlit : litS = xs.map (·.1) := by
    have h1 : (Rows.laid_fathom_page_steps : DataW Unit) = .agg (xs.map (·.1)) := (Prod.mk.inj hx).1
    rw [litS_eq] at h1
    exact DataW.agg.inj h1
  intro i hi
  have hi' := hel i hi
  rw [show Tryz.prog.cellsOf 127 = 1 by kernel_rfl, Nat.mul_one] at hi'
  have hil : i < xs.length := by omega
  rw [List.getElem?_eq_getElem hil] at hi'
  obtain ⟨k, e1, e2, _⟩ := DataW.trod_int (k := .u32) (by kernel_rfl) hi'
  have hk : litS[i]? = some (.lit (.int .u32 k)) := by rw [hlit, List.getElem?_map, List.getElem?_eq_getElem hil, e2]; rfl
  unfold litS at hk
  rw [List.getElem?_map] at hk
  obtain ⟨b, hb, eb⟩ := Option.map_eq_some_iff.1 hk
  have ek : k = (b.toNat : Int) := by
    have := eb
    simp only [DataW.lit.injEq, Lit.int.injEq, true_and] at this
    exact this.symm
  have hgd : stepsL.getD i 0#32 = b := by simp [List.getD, hb]
  rw [hgd, ← ek]
  have hc := World.var?_cell hg0 hv0 i
  have hcs : cs0[i]? = some (.int .u32 k) := by
    have h2 : ((cs0.toList.drop i).take 1)[0]? = some (Value.int .u32 k) := by rw [e1]; rfl
    rw [List.getElem?_take, if_pos (by decide), List.getElem?_drop, Nat.add_zero] at h2
    simpa using h2
  rw [hcs] at hc
  exact hc
theorem door_met (os : Os) (args : Array Value) : laidMetH Tryz.prog laidM ((World.doorLaid Tryz.prog 400 os).forCall (fun _ _ => 0) ⟨#[], args, []⟩).memory :=
  laidMetH_of_parts3 (fuel := 8) (laidMet_of_run' 8 (by kernel_rfl) (by kernel_rfl)) (by kernel_rfl) (by kernel_rfl)

/-- A field: a slice of structs. -/
theorem cells_structs {α : Type} {H : Type} {enc : TypeId × Value → H} {P : Program} {W : World} {t e : TypeId} {cs0 : List Value} {y0 : DataW H × List MemPlace} {E : Enc α} {fine : α → Prop} {fuel0 : Nat} (ht : P.underlying t = some (.slice e)) (hc : P.cellsOf e = E.size) (hs : 0 < E.size)
    (each : ∀ (a : Addr) (cs : List Value) (fuel : Nat) (y : DataW H × List MemPlace), cs.length = E.size → (∀ j, j < E.size → cs[j]? = hCell W.heap (a.add j)) → DataW.trod enc P W 0 (fun _ => true) true fuel e cs = some y → ∃ x : α, fine x ∧ cs = E.enc x)
    (hf : DataW.trod enc P W 0 (fun _ => true) true fuel0 t cs0 = some y0) :
    ∃ (s : Sl) (xs : List α), cs0 = [Sl.v s] ∧ RdE E W.heap s.a xs ∧ s.n = xs.length ∧ s.n ≤ s.c ∧ ∀ x ∈ xs, fine x := by
  rcases Go.Deep.open_slice ht hf with ⟨hcs, _⟩ | ⟨a, len, cap, m, n, D, Pl, hcs, _, hl, hm, hmm, _, hx⟩
  · exact ⟨Sl.mk none 0 0, [], hcs, Reads.nil _ _, rfl, Nat.le_refl _, by simp⟩
  · have hlm : len ≤ m := by rw [hmm]; simp; exact hl
    have each' : ∀ i, i < len → ∃ x : α, fine x ∧ ∀ j u, (E.enc x)[j]? = some u → hCell W.heap (a.add (i * E.size + j)) = some u := by
      intro i hi
      obtain ⟨cs', h1, h2⟩ := hx i (by omega)
      rw [hc] at h1
      obtain ⟨_, hlen, hcell⟩ := World.cells?_some h1
      have hcell' : ∀ j, j < E.size → cs'[j]? = hCell W.heap (a.add (i * E.size + j)) := fun j hj => by
        have := hcell j hj
        rw [Go.Deep.add_add] at this
        have h9 : hCell W.heap (a.add (i * E.size + j)) = cs'[j]? := this
        exact h9.symm
      obtain ⟨x, g1, g2⟩ := each (a.add (i * E.size)) cs' _ _ hlen (fun j hj => by rw [hcell' j hj, add_add]) h2
      refine ⟨x, g1, fun j u hu => ?_⟩
      have hj : j < E.size := by have := (List.getElem?_eq_some_iff.1 hu).1; rwa [E.len] at this
      rw [← hcell' j hj, g2]; exact hu
    obtain ⟨xs, h1, h2⟩ := collect (Q := fun i (x : α) => fine x ∧ ∀ j u, (E.enc x)[j]? = some u → hCell W.heap (a.add (i * E.size + j)) = some u) len each'
    refine ⟨Sl.mk (some a) len cap, xs, hcs, ?_, h1.symm, hl, fun x hx => ?_⟩
    · intro q u hu
      have hq : q < xs.length * E.size := by have := (List.getElem?_eq_some_iff.1 hu).1; rwa [Enc.all_length] at this
      have hdm : q = q / E.size * E.size + q % E.size := (Nat.div_add_mod' q E.size).symm
      have hmod := Nat.mod_lt q hs
      rw [hdm, Enc.all_get E xs (q / E.size) (q % E.size) hmod] at hu
      have hq7 : q / E.size < xs.length := Nat.div_lt_of_lt_mul (by rw [Nat.mul_comm]; exact hq)
      rw [List.getElem?_eq_getElem hq7] at hu
      refine ⟨a, rfl, ?_⟩
      have := (h2 (q / E.size) hq7).2 (q % E.size) u hu
      rwa [← hdm] at this
    · obtain ⟨i, hi, rfl⟩ := List.getElem_of_mem hx
      exact (h2 i hi).1
def svdFields : List (TypeId × Nat) := [(ty_string, 0), (ty_string, 1), (ty_int, 2)]
theorem svd_fields : ∃ fs, Tryz.prog.underlying ty_api_Saved = some (.struct fs) ∧ fs.toList.map (fun f => (f.type, f.offset)) = svdFields := by
  have hb : (match Tryz.prog.underlying ty_api_Saved with | some (.struct fs) => (fs.toList.map (fun f => (f.type, f.offset))) == svdFields | _ => false) = true := by kernel_rfl
  split at hb
  · rename_i fs q; exact ⟨fs, q, by simpa using hb⟩
  · cases hb
def mfFields : List (TypeId × Nat) := [(ty_uint8, 0), (ty_int, 1), (ty_string, 2), (ty_string, 3), (ty_sl_api_Saved, 4)]
theorem mf_fields : ∃ fs, Tryz.prog.underlying ty_api_Manifest = some (.struct fs) ∧ fs.toList.map (fun f => (f.type, f.offset)) = mfFields := by
  have hb : (match Tryz.prog.underlying ty_api_Manifest with | some (.struct fs) => (fs.toList.map (fun f => (f.type, f.offset))) == mfFields | _ => false) = true := by kernel_rfl
  split at hb
  · rename_i fs q; exact ⟨fs, q, by simpa using hb⟩
  · cases hb
set_option maxRecDepth 100000 in
/-- An argument: a manifest. -/
theorem open_mf {H : Type} {enc : TypeId × Value → H} {r : Reach} {b0 : Nat} {W : World} {v : Value} {d : DataW H} {ps : List MemPlace}
    (hval : Value.okWide Tryz.prog W r b0 ty_api_Manifest v) (h : DataW.Trod enc Tryz.prog W 0 (fun _ => true) true ty_api_Manifest v d ps) :
    ∃ (m : Mf) (rs : Sl), v = .agg #[(.int .u8 m.opts), (.int .i64 m.next), (.string m.input), (.string m.terms), rs.v] ∧ Rels W.heap rs m.rels ∧ 0 ≤ m.opts ∧ m.opts < 256 ∧ rs.n ≤ rs.c := by
  obtain ⟨fs, hst, hfs⟩ := mf_fields
  obtain ⟨cs, rfl, hsz⟩ := okWide_struct hst hval
  rw [show Tryz.prog.cellsOf ty_api_Manifest = 5 by kernel_rfl] at hsz
  obtain ⟨fuel, hf⟩ := h
  obtain ⟨k, fld⟩ := trod_field hst hfs hf
  have c1 : ∀ t ∈ ([ty_uint8, ty_int, ty_string, ty_sl_api_Saved] : List TypeId), Tryz.prog.cellsOf t = 1 := by
    have hb : ([ty_uint8, ty_int, ty_string, ty_sl_api_Saved] : List TypeId).all (fun t => Nat.beq (Tryz.prog.cellsOf t) 1) = true := by kernel_rfl
    intro t ht
    exact Nat.eq_of_beq_eq_true (List.all_eq_true.1 hb t ht)
  have hcl : (Value.agg cs).cells.toList.length = 5 := by simpa [Value.cells] using hsz
  have hce : (Value.agg cs).cells = cs := rfl
  obtain ⟨v0, v1, v2, v3, v4, hcs⟩ : ∃ v0 v1 v2 v3 v4, cs.toList = [v0, v1, v2, v3, v4] := by
    match hq : cs.toList, (by rw [hce] at hcl; exact hcl : cs.toList.length = 5) with
    | [v0, v1, v2, v3, v4], _ => exact ⟨v0, v1, v2, v3, v4, rfl⟩
  rw [hce, hcs] at fld
  obtain ⟨y0, g0⟩ := fld 0 ty_uint8 0 rfl
  obtain ⟨y1, g1⟩ := fld 1 ty_int 1 rfl
  obtain ⟨y2, g2⟩ := fld 2 ty_string 2 rfl
  obtain ⟨y3, g3⟩ := fld 3 ty_string 3 rfl
  obtain ⟨y4, g4⟩ := fld 4 ty_sl_api_Saved 4 rfl
  rw [c1 _ (by simp)] at g0 g1 g2 g3 g4
  obtain ⟨x0, e0, _, w0⟩ := DataW.trod_int (k := .u8) (by kernel_rfl) g0
  obtain ⟨x1, e1, _⟩ := DataW.trod_int (k := .i64) (by kernel_rfl) g1
  obtain ⟨x2, e2, _⟩ := DataW.trod_string (by kernel_rfl) g2
  obtain ⟨x3, e3, _⟩ := DataW.trod_string (by kernel_rfl) g3
  obtain ⟨s, xs, e4, hrd, hn, hcap, _⟩ := cells_structs (E := ESv) (fine := fun _ => True) (e := ty_api_Saved) (by kernel_rfl) (by kernel_rfl) (by decide) (by
    intro a cs fuel y hlen _ hy
    obtain ⟨fs, hst, hfs⟩ := svd_fields
    obtain ⟨k, fld⟩ := trod_field hst hfs hy
    have c1 : ∀ t ∈ ([ty_int, ty_string] : List TypeId), Tryz.prog.cellsOf t = 1 := by
      have hb : ([ty_int, ty_string] : List TypeId).all (fun t => Nat.beq (Tryz.prog.cellsOf t) 1) = true := by kernel_rfl
      intro t ht
      exact Nat.eq_of_beq_eq_true (List.all_eq_true.1 hb t ht)
    match cs, hlen with
    | [v0, v1, v2], _ =>
      obtain ⟨y0, g0⟩ := fld 0 ty_string 0 rfl
      obtain ⟨y1, g1⟩ := fld 1 ty_string 1 rfl
      obtain ⟨y2, g2⟩ := fld 2 ty_int 2 rfl
      rw [c1 _ (by simp)] at g0 g1 g2
      obtain ⟨x0, e0, _⟩ := DataW.trod_string (by kernel_rfl) g0
      obtain ⟨x1, e1, _⟩ := DataW.trod_string (by kernel_rfl) g1
      obtain ⟨x2, e2, _⟩ := DataW.trod_int (k := .i64) (by kernel_rfl) g2
      simp at e0 e1 e2
      subst e0 e1 e2
      exact ⟨⟨x0, x1, x2⟩, trivial, rfl⟩) g4
  simp at e0 e1 e2 e3 e4
  subst e0 e1 e2 e3 e4
  obtain ⟨w1, w2⟩ := fits_u8 w0
  refine ⟨⟨x0, x1, x2, x3, xs⟩, s, ?_, ⟨hrd, hn⟩, w1, w2, hcap⟩
  congr 1
  rw [← Array.toList_inj, hcs]
/-- An argument: bytes. -/
theorem byts_of {W : World} {s : Sl} {l : List Int} (h : Ints .u8 W.heap s l) (hw : ∀ x ∈ l, (Lit.int .u8 x).wf = true) : ∃ b : List UInt8, Byts W.heap s b := by
  refine ⟨l.map fun x => UInt8.ofNat x.toNat, ?_⟩
  have e : u8i (l.map fun x => UInt8.ofNat x.toNat) = l := by
    unfold u8i
    rw [List.map_map]
    have : ∀ x ∈ l, ((fun x : UInt8 => (x.toNat : Int)) ∘ fun x : Int => UInt8.ofNat x.toNat) x = x := by
      intro x hx
      obtain ⟨w1, w2⟩ := fits_u8 (hw x hx)
      simp only [Function.comp]
      rw [UInt8.toNat_ofNat']; omega
    rw [List.map_congr_left this]; simp
  show Ints .u8 W.heap s (u8i _)
  rw [e]; exact h
end Go.Proofs.YtjjfngnokbboeaaGreatDoor

/-
  Manifests committed on a disk that may crash, in plain words.
-/
namespace Go.Proofs.YtjjfngnokbboeaaGreatDoor

/-- A disk that is up. -/
structure Upd (d : Dk) (fs : List Fl) (q : Nat) : Prop where
  files : d.files = fs
  down : d.down = false
  quota : d.quota = q
/-- A disk that has crashed. -/
structure Off (d : Dk) (fs : List Fl) (q : Nat) : Prop where
  files : d.files = fs
  down : d.down = true
  quota : d.quota = q
theorem Fine.upd {d : Dk} {fs : List Fl} {q : Nat} (h : Fine d fs q) : Upd d fs q := ⟨h.files, h.down, h.quota⟩
theorem Upd.crash {d : Dk} {fs : List Fl} {q : Nat} (h : Upd d fs q) (i k : Int) : Upd (d.setCrash i k) fs q := by
  unfold Dk.setCrash
  rw [if_neg (by rw [h.down]; simp)]
  exact ⟨h.files, h.down, h.quota⟩
theorem put_upd {d : Dk} {fs : List Fl} {q : Nat} {n : ByteArray} {b : List UInt8} (h : Upd d fs q) (hn : named n = true) (hno : ∀ g ∈ fs, g.name ≠ n) (hf : fs.length < 4096) (hq : usedL fs + (pieces (allM b)).length ≤ q) :
    (∃ pg : List Pg, pg.map (·.1) = (pieces (allM b)).map (sealP 3) ∧ Upd (d.putM n b).1 (fs ++ [⟨n, pg, []⟩]) q ∧ (d.putM n b).2 = 0) ∨
    (∃ rest, (rest = [] ∨ ∃ f' : Fl, rest = [f'] ∧ f'.name = n) ∧ Off (d.putM n b).1 (fs ++ rest) q ∧ (d.putM n b).2 = 4) := by
  have hx : d.idx n = none := by unfold Dk.idx; rw [h.files]; exact idx_absent hno
  have hl : ¬ (d.len n).2 = 0 := by
    unfold Dk.len Dk.open
    rw [if_neg (by rw [h.down]; simp), hx]; simp
  have hp : d.putM n b = d.make n b := by
    unfold Dk.putM Dk.clear
    rw [if_neg hl]; rfl
  obtain ⟨rest, h1, h2, h3⟩ := make_tail (n := n) (b := b) h.down hn (by rw [h.files]; exact hno) (by rw [h.files]; exact hf) (by rw [h.files, h.quota]; exact hq)
  rw [hp]
  rcases h3 with ⟨a1, a2, ⟨pg, a3, a4⟩, a5⟩ | ⟨a1, a2, _, a4⟩
  · exact .inl ⟨pg, a4, ⟨by rw [h1, h.files, a3], a2, h2.trans h.quota⟩, a1⟩
  · exact .inr ⟨rest, a4, ⟨by rw [h1, h.files], a2, h2.trans h.quota⟩, a1⟩
theorem erase_mid {a b : List Fl} {f : Fl} : (a ++ f :: b).eraseIdx a.length = a ++ b := by
  induction a with
  | nil => rfl
  | cons x a ih => rw [List.cons_append, List.length_cons, List.eraseIdx_cons_succ, ih]; rfl
theorem idx_mid {d : Dk} {a b : List Fl} {f : Fl} {n : ByteArray} (h : d.files = a ++ f :: b) (hn : f.name = n) (hno : ∀ g ∈ a, g.name ≠ n) : d.idx n = some a.length := by
  unfold Dk.idx
  rw [h, List.findIdx?_append, idx_absent hno, List.findIdx?_cons]
  simp [hn]
/-- A name is given anew over a file that stood there. -/
theorem rename_over {d : Dk} {a b : List Fl} {f g : Fl} {q : Nat} {n m : ByteArray} (h : Upd d (a ++ f :: (b ++ [g])) q) (hf : f.name = m) (hg : g.name = n) (hna : ∀ x ∈ a, x.name ≠ n ∧ x.name ≠ m) (hnb : ∀ x ∈ b, x.name ≠ n) (hm : named m = true) (hnm : n ≠ m) :
    (Upd (d.rename n m).1 (a ++ (b ++ [{ g with name := m }])) q ∧ (d.rename n m).2 = 0) ∨ (Off (d.rename n m).1 (a ++ f :: (b ++ [g])) q ∧ (d.rename n m).2 = 4) := by
  have i1 : ∀ t : Dk, t.files = a ++ f :: (b ++ [g]) → t.idx n = some (a ++ f :: b).length := fun t ht => by
    refine idx_last (f := g) (by rw [ht]; simp) hg ?_
    intro x hx
    rcases List.mem_append.1 hx with q | q
    · exact (hna x q).1
    · rcases List.mem_cons.1 q with q | q
      · rw [q, hf]; exact fun e => hnm e.symm
      · exact hnb x q
  unfold Dk.rename
  rw [if_neg (by rw [h.down]; simp), if_neg (by rw [hm]; simp), if_neg (by rw [i1 d h.files]; simp)]
  rcases d.step_res (fun t => if n.toList = m.toList then t else (t.drop m).setName n m) with ⟨t, t1, t2, t3, _, _, _, t7⟩ | ⟨q1, _⟩
  · rw [t7]
    simp only
    rw [if_neg fun q => hnm (ba_eq q)]
    have tf : t.files = a ++ f :: (b ++ [g]) := t1.trans h.files
    have hd : t.drop m = { t with files := a ++ (b ++ [g]) } := by
      unfold Dk.drop
      rw [idx_mid tf hf fun x hx => (hna x hx).2]
      simp only
      rw [tf, erase_mid]
    rw [hd]
    have i2 : ({ t with files := a ++ (b ++ [g]) } : Dk).idx n = some (a ++ b).length := by
      refine idx_last (f := g) (by simp) hg ?_
      intro x hx
      rcases List.mem_append.1 hx with q | q
      · exact (hna x q).1
      · exact hnb x q
    have hs : ({ t with files := a ++ (b ++ [g]) } : Dk).setName n m = { t with files := (a ++ (b ++ [g])).modify (a ++ b).length fun f => { f with name := m } } := by
      unfold Dk.setName; rw [i2]
    rw [hs]
    refine .inl ⟨⟨?_, t3.trans h.down, t2.trans h.quota⟩, trivial⟩
    show (a ++ (b ++ [g])).modify _ _ = _
    rw [← List.append_assoc, modify_tail, List.append_assoc]
  · rw [q1]
    exact .inr ⟨⟨h.files, rfl, h.quota⟩, rfl⟩
theorem getM_upd {d : Dk} {fs : List Fl} {q : Nat} {n : ByteArray} {b : List UInt8} {i : Nat} {f : Fl} (h : Upd d fs q) (hi : fs.findIdx? (fun f => f.name.toList == n.toList) = some i) (hf : fs[i]? = some f) (hp : f.pages.map (·.1) = (pieces (allM b)).map (sealP 3)) (hb : b.length < 18446744073709551616) : d.getM n = (b, 0) := by
  refine getM_of h.down (i := i) (by unfold Dk.idx; rw [h.files]; exact hi) ?_ hb
  rw [Dk.file_eq (by rw [h.files]; exact hf)]
  exact hp
theorem sweep_none {f : Option Mf} : ∀ (l : List (List UInt8)) (d : Dk), (∀ n ∈ l, keeps f n = true) → Dk.sweep f l d = (d, 0)
  | [], d, _ => rfl
  | n :: l, d, h => by
    rw [sweep_cons, if_pos (h n List.mem_cons_self)]
    exact sweep_none l d fun x hx => h x (List.mem_cons_of_mem _ hx)
theorem list_upd {d : Dk} {fs : List Fl} {q : Nat} (h : Upd d fs q) : d.list.Perm (fs.map fun f => f.name.data.toList) := by
  unfold Dk.list
  rw [if_neg (by rw [h.down]; simp), h.files]
  have : (fs.map fun f => f.name.toList) = fs.map fun f => f.name.data.toList := List.map_congr_left fun f _ => ByteArray.toList_eq _
  rw [this]
  exact List.mergeSort_perm _ _
/-- All that lies there is kept. -/
theorem recover_still {d : Dk} {fs : List Fl} {q : Nat} {m : Mf} (h : Upd d fs q) (hm : d.getM nmM = (encM m, 0)) (hy : mayM m = true) (ho : 0 ≤ m.opts ∧ m.opts < 256) (hk : ∀ g ∈ fs, keeps (some m) g.name.data.toList = true) : d.recover = ((m, true, 0), d) := by
  have hf : d.foundM = some m := by
    unfold Dk.foundM
    rw [hm, if_pos rfl]
    exact dec_enc hy ho
  have hs := sweep_none (f := some m) d.list d fun n hn => by
    obtain ⟨g, hg, e⟩ := List.mem_map.1 ((list_upd h).mem_iff.1 hn)
    rw [← e]; exact hk g hg
  unfold Dk.recover
  rw [hm, if_neg (by simp), hf, hs, if_neg (by simp)]
  rfl
theorem Off.restart {d : Dk} {fs : List Fl} {q : Nat} (h : Off d fs q) : Fine d.restart (fs.map d.after) q := by
  unfold Dk.restart
  rw [if_pos h.down]
  exact ⟨by rw [← h.files], rfl, rfl, h.quota⟩
theorem Upd.restart {d : Dk} {fs : List Fl} {q : Nat} (h : Upd d fs q) : d.restart = d := by
  unfold Dk.restart
  rw [if_neg (by rw [h.down]; simp)]
theorem after_synced (d : Dk) (n : ByteArray) (pg : List Pg) : d.after ⟨n, pg, []⟩ = ⟨n, pg, []⟩ := by
  unfold Dk.after; rfl
/-- A manifest found again on a disk that does not crash. -/
theorem recover_fine {d : Dk} {fs : List Fl} {q : Nat} {m : Mf} (h : Fine d fs q) (hd : (fs.map (·.name)).Nodup) (hm : d.getM nmM = (encM m, 0)) (hy : mayM m = true) (ho : 0 ≤ m.opts ∧ m.opts < 256) :
    d.recover.1 = (m, true, 0) ∧ Fine d.recover.2 (fs.filter fun g => keeps (some m) g.name.data.toList) q := by
  have hf : d.foundM = some m := by
    unfold Dk.foundM
    rw [hm, if_pos rfl]
    exact dec_enc hy ho
  obtain ⟨s1, s2⟩ := sweep_all (f := some m) h hd
  have hr : d.recover = ((m, true, 0), (Dk.sweep (some m) d.list d).1) := by
    unfold Dk.recover
    rw [hm, if_neg (by simp), hf, if_neg (by rw [s2]; simp)]
    rfl
  rw [hr]
  exact ⟨rfl, s1⟩
/-- A manifest is committed where there is none yet. -/
theorem commit_first {d : Dk} {fs : List Fl} {q : Nat} {m : Mf} (h : Fine d fs q) (hy : mayM m = true) (hno : ∀ g ∈ fs, g.name ≠ nmN ∧ g.name ≠ nmM) (hf : fs.length < 4096) (hq : usedL fs + (pieces (allM (encM m))).length ≤ q) :
    ∃ pg : List Pg, pg.map (·.1) = (pieces (allM (encM m))).map (sealP 3) ∧ Fine (d.commit m).1 (fs ++ [⟨nmM, pg, []⟩]) q ∧ (d.commit m).2 = 0 := by
  obtain ⟨pg, h1, h2, h3⟩ := put_fine (n := nmN) (b := encM m) h (by decide) (fun g hg => (hno g hg).1) hf hq
  obtain ⟨h4, h5⟩ := rename_fine (m := nmM) h2 rfl (fun g hg => (hno g hg).1) (by decide) (ne_of_data (by decide) : nmN ≠ nmM) (fun g hg => (hno g hg).2)
  have hc : d.commit m = (d.putM nmN (encM m)).1.rename nmN nmM := by
    unfold Dk.commit
    rw [if_neg (by rw [hy]; simp), if_neg (by rw [h3]; simp)]
  rw [hc]
  exact ⟨pg, h1, h4, h5⟩
/-- A manifest is committed over another, and there may be a crash. -/
theorem commit_over {d : Dk} {a b : List Fl} {f : Fl} {q : Nat} {m : Mf} (h : Upd d (a ++ f :: b) q) (hy : mayM m = true) (hfn : f.name = nmM) (hno : ∀ g ∈ a ++ b, g.name ≠ nmN ∧ g.name ≠ nmM) (hf : (a ++ f :: b).length < 4096) (hq : usedL (a ++ f :: b) + (pieces (allM (encM m))).length ≤ q) :
    (∃ pg : List Pg, pg.map (·.1) = (pieces (allM (encM m))).map (sealP 3) ∧ Upd (d.commit m).1 (a ++ (b ++ [⟨nmM, pg, []⟩])) q ∧ (d.commit m).2 = 0) ∨
    (∃ rest : List Fl, (rest = [] ∨ ∃ f', rest = [f'] ∧ f'.name = nmN) ∧ Off (d.commit m).1 (a ++ f :: b ++ rest) q ∧ (d.commit m).2 = 4) := by
  have nNM : nmN ≠ nmM := ne_of_data (by decide)
  have hn2 : ∀ g ∈ a ++ f :: b, g.name ≠ nmN := by
    intro g hg
    rcases List.mem_append.1 hg with q | q
    · exact (hno g (List.mem_append.2 (.inl q))).1
    · rcases List.mem_cons.1 q with q | q
      · rw [q, hfn]; exact fun e => nNM e.symm
      · exact (hno g (List.mem_append.2 (.inr q))).1
  rcases put_upd (n := nmN) (b := encM m) h (by decide) hn2 hf hq with ⟨pg, h1, h2, h3⟩ | ⟨rest, h1, h2, h3⟩
  · have hc : d.commit m = (d.putM nmN (encM m)).1.rename nmN nmM := by
      unfold Dk.commit
      rw [if_neg (by rw [hy]; simp), if_neg (by rw [h3]; simp)]
    rw [hc]
    have e : a ++ f :: b ++ [(⟨nmN, pg, []⟩ : Fl)] = a ++ f :: (b ++ [⟨nmN, pg, []⟩]) := by simp
    rw [e] at h2
    rcases rename_over (n := nmN) (m := nmM) h2 hfn rfl (fun x hx => hno x (List.mem_append.2 (.inl hx))) (fun x hx => (hno x (List.mem_append.2 (.inr hx))).1) (by decide) nNM with ⟨r1, r2⟩ | ⟨r1, r2⟩
    · exact .inl ⟨pg, h1, r1, r2⟩
    · rw [← e] at r1
      exact .inr ⟨[⟨nmN, pg, []⟩], .inr ⟨_, rfl, rfl⟩, r1, r2⟩
  · have hc : d.commit m = d.putM nmN (encM m) := by
      unfold Dk.commit
      rw [if_neg (by rw [hy]; simp), if_pos (by rw [h3]; simp)]
    rw [hc]
    exact .inr ⟨rest, h1, h2, h3⟩
end Go.Proofs.YtjjfngnokbboeaaGreatDoor

/-
  ManifestCrash: a crash at any change of a commit: the plain law and the walk.
-/
namespace Go.Proofs.YtjjfngnokbboeaaGreatDoor
open Go.MapKept

theorem pick_ok {i n : Int} {H : Heap} {K : Int → Heap → Prop} (h2 : n ≤ 9223372036854775807)
    (hK : K (if n < 1 then 0 else i.emod n) H) : fathomkit_Pick.sp i n H K := by
  refine fathomkit_Pick.of ?_
  unfold fathomkit_Pick.vc
  refine br_mk (fun h => ?_) (fun h => ?_)
  · have : n < 1 := by simpa using h
    simpa [this] using hK
  · have hn : 1 ≤ n := by simpa using h
    refine ⟨by omega, ?_⟩
    rw [if_neg (by omega)] at hK
    refine br_mk (fun h => ?_) (fun h => ?_)
    · have hneg : i.tmod n < 0 := by simpa using h
      have e : i.emod n = i.tmod n + n := by
        rw [Int.tmod_eq_emod] at hneg ⊢
        split at hneg
        · have := Int.emod_nonneg i (show n ≠ 0 by omega)
          omega
        · rename_i h3
          rw [if_neg h3]
          have : (n.natAbs : Int) = n := by omega
          have e2 : i % n = i.emod n := rfl
          omega
      have hb1 : -n < i.tmod n := by
        rw [Int.tmod_eq_emod]
        have := Int.emod_nonneg i (show n ≠ 0 by omega)
        split <;> omega
      rw [wrap64 (by omega) (by omega), ← e]
      exact hK
    · have hpos : 0 ≤ i.tmod n := by simpa using h
      have e : i.emod n = i.tmod n := by
        rw [Int.tmod_eq_emod] at hpos ⊢
        split
        · simp; rfl
        · rename_i h3
          rw [if_neg h3] at hpos
          have := Int.emod_lt_of_pos i (show 0 < n by omega)
          have : (n.natAbs : Int) = n := by omega
          omega
      rw [← e]; exact hK

def nmIn : ByteArray := ByteArray.mk #[105, 110]
theorem pg_len {pg : List Pg} {b : List UInt8} (h : pg.map (·.1) = (pieces (allM b)).map (sealP 3)) : pg.length = (b.length + 511) / 504 := by
  have h1 := congrArg List.length h
  rw [List.length_map, List.length_map, pieces_length] at h1
  have h2 : (allM b).length = 8 + b.length := by simp [allM]
  rw [h1, h2]
  congr 1; omega
theorem may_len {m : Mf} (hy : mayM m = true) (hs : m.terms.size + m.rels.length + thick m.rels ≤ 20000) : (encM m).length ≤ 24000 := by
  have h1 := rels_len hy
  have h2 : m.input.size ≤ 100 := by
    unfold mayM at hy
    simp only [Bool.and_eq_true, decide_eq_true_eq] at hy
    exact hy.1.1.1.2
  rw [encM_length]; omega
theorem used2 {n1 n2 : ByteArray} {p1 p2 : List Pg} : usedL ([(⟨n1, p1, []⟩ : Fl)] ++ ⟨n2, p2, []⟩ :: []) = p1.length + p2.length := by
  simp [usedL, Fl.pages]
theorem crash_plain {old m : Mf} {b : List UInt8} (hb : b.length ≤ 20000) (io : old.input = nmIn) (im : m.input = nmIn) (so : old.terms.size + old.rels.length + thick old.rels ≤ 20000) (sm : m.terms.size + m.rels.length + thick m.rels ≤ 20000)
    (oo : 0 ≤ old.opts ∧ old.opts < 256) (om : 0 ≤ m.opts ∧ m.opts < 256) :
    ∃ s1 : Dk, (dk0 400).putM nmIn b = (s1, 0) ∧ ((mayM old = false ∧ s1.commit old = (s1, 2)) ∨
      (mayM old = true ∧ ∃ s2, s1.commit old = (s2, 0) ∧ ∀ i k, ∃ s4 f, (s2.setCrash i k).commit m = (s4, f) ∧
        ((f = 2 ∧ s4.down = false) ∨ (f = 0 ∧ mayM m = true ∧ s4.restart.getM nmIn = (b, 0) ∧ s4.restart.recover.1 = (m, true, 0)) ∨
         (f = 4 ∧ mayM m = true ∧ s4.down = true ∧ s4.restart.getM nmIn = (b, 0) ∧ s4.restart.recover.1 = (old, true, 0))))) := by
  have f0 := dk0_fine 400
  have q9 : (dk0 400).quota = 400 := rfl
  rw [q9] at f0
  have u0 : usedL [] = 0 := rfl
  have pb : (pieces (allM b)).length = (b.length + 511) / 504 := by
    rw [pieces_length]
    have : (allM b).length = 8 + b.length := by simp [allM]
    rw [this]; congr 1; omega
  obtain ⟨pi, hi, f1, e1⟩ := put_fine (n := nmIn) (b := b) f0 (by decide) (by simp) (by decide) (by rw [u0, pb]; omega)
  have li := pg_len hi
  generalize hs1 : (dk0 400).putM nmIn b = s1 at *
  have fe : ([] ++ [(⟨nmIn, pi, []⟩ : Fl)]) = [⟨nmIn, pi, []⟩] := rfl
  rw [fe] at f1
  refine ⟨s1.1, Prod.ext rfl e1, ?_⟩
  cases hyo : mayM old with
  | false => exact .inl ⟨rfl, by unfold Dk.commit; rw [if_pos hyo]⟩
  | true =>
    refine .inr ⟨rfl, ?_⟩
    have nIN : nmIn ≠ nmN := ne_of_data (by decide)
    have nIM : nmIn ≠ nmM := ne_of_data (by decide)
    have nNM : nmN ≠ nmM := ne_of_data (by decide)
    have lo := may_len hyo so
    have pieL : ∀ x : Mf, (pieces (allM (encM x))).length = ((encM x).length + 511) / 504 := by
      intro x
      rw [pieces_length]
      have : (allM (encM x)).length = 8 + (encM x).length := by simp [allM]
      rw [this]; congr 1; omega
    have u1 : usedL [(⟨nmIn, pi, []⟩ : Fl)] = pi.length := by simp [usedL, Fl.pages]
    obtain ⟨po, ho, f2, e2⟩ := commit_first (m := old) f1 hyo (by intro g hg; simp at hg; rw [hg]; exact ⟨nIN, nIM⟩) (by simp) (by rw [u1, pieL]; omega)
    have lpo := pg_len ho
    generalize hs2 : s1.1.commit old = s2 at *
    refine ⟨s2.1, Prod.ext rfl e2, fun i k => ?_⟩
    have f3 := f2.upd.crash i k
    generalize s2.1.setCrash i k = s3 at *
    have bI : (nmIn.toList == nmM.toList) = false := by rw [ByteArray.toList_eq, ByteArray.toList_eq]; decide
    cases hym : mayM m with
    | false => exact ⟨s3, 2, by unfold Dk.commit; rw [if_pos hym], .inl ⟨rfl, f3.down⟩⟩
    | true =>
      have lm := may_len hym sm
      have hno : ∀ g ∈ [(⟨nmIn, pi, []⟩ : Fl)] ++ [], g.name ≠ nmN ∧ g.name ≠ nmM := by
        intro g hg; simp at hg; rw [hg]; exact ⟨nIN, nIM⟩
      rcases commit_over (a := [⟨nmIn, pi, []⟩]) (b := []) (f := ⟨nmM, po, []⟩) (m := m) f3 hym rfl hno (by simp) (by rw [used2, pieL]; omega) with ⟨pm, hm, f4, e4⟩ | ⟨rest, hr, f4, e4⟩
      · refine ⟨(s3.commit m).1, 0, Prod.ext rfl e4, .inr (.inl ⟨rfl, rfl, ?_⟩)⟩
        generalize (s3.commit m).1 = s4 at *
        have fe4 : [(⟨nmIn, pi, []⟩ : Fl)] ++ ([] ++ [⟨nmM, pm, []⟩]) = [⟨nmIn, pi, []⟩, ⟨nmM, pm, []⟩] := rfl
        rw [fe4] at f4
        rw [f4.restart]
        refine ⟨getM_upd f4 (i := 0) (f := ⟨nmIn, pi, []⟩) (by simp [List.findIdx?_cons]) rfl hi (by omega), ?_⟩
        have gM : s4.getM nmM = (encM m, 0) := getM_upd f4 (i := 1) (f := ⟨nmM, pm, []⟩) (by simp [List.findIdx?_cons, bI]) rfl hm (by omega)
        rw [recover_still f4 gM hym om (by
          intro g hg
          simp at hg
          rcases hg with rfl | rfl
          · rw [keeps_iff, im]; simp
          · rw [keeps_iff]; simp)]
      · refine ⟨(s3.commit m).1, 4, Prod.ext rfl e4, .inr (.inr ⟨rfl, rfl, f4.down, ?_⟩)⟩
        generalize (s3.commit m).1 = s4 at *
        have f5 := f4.restart
        have fe5 : (([(⟨nmIn, pi, []⟩ : Fl)] ++ (⟨nmM, po, []⟩ : Fl) :: []) ++ rest).map s4.after = (⟨nmIn, pi, []⟩ : Fl) :: (⟨nmM, po, []⟩ : Fl) :: rest.map s4.after := by
          simp [after_synced]
        rw [fe5] at f5
        have hnd : (((⟨nmIn, pi, []⟩ : Fl) :: (⟨nmM, po, []⟩ : Fl) :: rest.map s4.after).map (·.name)).Nodup := by
          rcases hr with rfl | ⟨f', rfl, hf'⟩
          · simp [nIM]
          · have h9 : (s4.after f').name = nmN := hf'
            simp [nIM, h9, nIN, Ne.symm nNM]
        generalize s4.restart = s5 at *
        refine ⟨getM_fine f5 (i := 0) (f := ⟨nmIn, pi, []⟩) (by simp [List.findIdx?_cons]) rfl hi (by omega), ?_⟩
        have gM : s5.getM nmM = (encM old, 0) := getM_fine f5 (i := 1) (f := ⟨nmM, po, []⟩) (by simp [List.findIdx?_cons, bI]) rfl ho (by omega)
        exact (recover_fine f5 hnd gM hyo oo).1
/-- What lies still while a disk that was made since is worked on: two manifests. -/
structure CrS (H H5 : Heap) (p1 p2 : Nat) (old m : Mf) (ro rm : Sl) (d : Nat) (A : Heap) (s : Dk) : Prop where
  dk : ∃ F, DiskAt F A d s ∧ ∀ b, F b → H5.size ≤ b
  e : Ext H A
  z : H5.size ≤ A.size
  r1 : RowT A p1 ty_api_Manifest (headM old.opts old.next old.input old.terms ro)
  r2 : RowT A p2 ty_api_Manifest (headM m.opts m.next m.input m.terms rm)
section
variable {H H5 A B : Heap} {p1 p2 : Nat} {old m : Mf} {ro rm : Sl} {d : Nat} {s : Dk}
theorem CrS.go (c : CrS H H5 p1 p2 old m ro rm d A s) (h5 : H.size ≤ H5.size) (hp1 : p1 < H5.size) (hp2 : p2 < H5.size) : ∃ F, DiskAt F A d s ∧ (∀ b, b < H5.size → ¬ F b) ∧ ∀ (s' : Dk) (F' : Nat → Prop) (B : Heap), DiskAt F' B d s' → Step F F' A B → CrS H H5 p1 p2 old m ro rm d B s' := by
  obtain ⟨F, h1, h2⟩ := c.dk
  have hz := c.e.size
  have z := c.z
  have nF : ∀ b, b < H5.size → ¬ F b := fun b hb q => by have := h2 b q; omega
  refine ⟨F, h1, nF, fun s' F' B h3 S => ⟨⟨F', h3, fun b hb => (S.own b hb).elim (h2 b) fun q => by omega⟩, ⟨Nat.le_trans hz S.mod.size, fun b hb _ => (S.mod.same b (Nat.lt_of_lt_of_le hb hz) (nF b (Nat.lt_of_lt_of_le hb h5))).trans (c.e.same b hb id)⟩, Nat.le_trans z S.mod.size, c.r1.mod S.mod (nF _ hp1), c.r2.mod S.mod (nF _ hp2)⟩⟩
theorem CrS.ext (c : CrS H H5 p1 p2 old m ro rm d A s) (x : Ext A B) : CrS H H5 p1 p2 old m ro rm d B s := by
  obtain ⟨F, h1, h2⟩ := c.dk
  exact ⟨⟨F, h1.keep fun b _ hl => x.same b hl id, h2⟩, Mod.trans c.e x, Nat.le_trans c.z x.size, c.r1.ext x, c.r2.ext x⟩
end
theorem CrS.via {H H5 A : Heap} {p1 p2 : Nat} {old m : Mf} {ro rm : Sl} {d : Nat} {s : Dk} {F : Nat → Prop} (c : CrS H H5 p1 p2 old m ro rm d A s) (h5 : H.size ≤ H5.size) (hp1 : p1 < H5.size) (hp2 : p2 < H5.size) (nF : ∀ b, b < H5.size → ¬ F b) : ∀ (s' : Dk) (F' : Nat → Prop) (B : Heap), DiskAt F' B d s' → Step F F' A B → CrS H H5 p1 p2 old m ro rm d B s' := by
  have hz := c.e.size
  have z := c.z
  refine fun s' F' B h3 S => ⟨⟨F', h3, fun b hb => (S.own b hb).elim (fun q => ?_) fun q => by omega⟩, ⟨Nat.le_trans hz S.mod.size, fun b hb _ => (S.mod.same b (Nat.lt_of_lt_of_le hb hz) (nF b (Nat.lt_of_lt_of_le hb h5))).trans (c.e.same b hb id)⟩, Nat.le_trans z S.mod.size, c.r1.mod S.mod (nF _ hp1), c.r2.mod S.mod (nF _ hp2)⟩
  rcases Nat.lt_or_ge b H5.size with h | h
  · exact absurd q (nF b h)
  · exact h
theorem mayM_in {m : Mf} : ({ m with input := nmIn } : Mf).input = nmIn := rfl
set_option maxRecDepth 100000 in
set_option maxHeartbeats 4000000 in
theorem ManifestCrash_ok {old0 m0 : Mf} {ro rm b : Sl} {l : List UInt8} {p keep : Int} {H : Heap} {K : Bool → Heap → Prop} (ho : Rels H ro old0.rels) (hm : Rels H rm m0.rels) (oo : 0 ≤ old0.opts ∧ old0.opts < 256) (om : 0 ≤ m0.opts ∧ m0.opts < 256)
    (hb : Byts H b l) (hg : Gl H) (hK : ∀ H', Ext H H' → K true H') : fathomlaw28_ManifestCrash.sp old0.opts old0.next old0.input old0.terms ro m0.opts m0.next m0.input m0.terms rm b p keep H K := by
  have hgl := hg.lt
  have hbn := hb.n
  refine fathomlaw28_ManifestCrash.of ?_
  unfold fathomlaw28_ManifestCrash.vc
  refine newC_rowT fun H1 s1 r1 e1 => ?_
  have r1' : RowT H1 H.size ty_api_Manifest (headM old0.opts old0.next old0.input old0.terms ro) := r1
  refine newC_rowT fun H2 s2 r2 e2 => ?_
  have r2' : RowT H2 H1.size ty_api_Manifest (headM m0.opts m0.next m0.input m0.terms rm) := r2
  have e02 : Ext H H2 := Mod.trans e1 e2
  have wk : ∀ A, Ext H A → fathomlaw28_works.sp A K := fun A e => mworks_ok (hg.mod e id) fun H' e' => hK H' (Mod.trans e e')
  refine mf_ld (r1'.ext e2) ?_
  refine size_ok (ho.ext e02) fun z H3 e3 hz => ?_
  have e03 : Ext H H3 := Mod.trans e02 e3
  refine br_mk (fun _ => wk H3 e03) (fun q => ?_)
  have q : ¬ (z > 20000) := by simpa using q
  have so := hz (by omega)
  refine mf_ld (r2'.ext e3) ?_
  refine size_ok (hm.ext e03) fun z2 H5 e5 hz2 => ?_
  have e05 : Ext H H5 := Mod.trans e03 e5
  refine br_mk (fun _ => wk H5 e05) (fun q2 => ?_)
  have q2 : ¬ (z2 > 20000) ∧ ¬ ((b.n : Int) > 20000) := by
    simp only [Bool.or_eq_false_iff, decide_eq_false_iff_not] at q2
    exact q2
  have sm := hz2 (by omega)
  have y2 := e02.size
  have y3 : H2.size ≤ H5.size := (Mod.trans e3 e5 : Ext H2 H5).size
  have y5 := e05.size
  refine New_ok (by decide) fun F d H7 d7 e7 f7 => ?_
  have e57 : Ext H5 H7 := e7
  have r17 : RowT H7 H.size ty_api_Manifest (headM old0.opts old0.next old0.input old0.terms ro) := (((r1'.ext e2).ext e3).ext e5).ext e7
  have r27 : RowT H7 H1.size ty_api_Manifest (headM m0.opts m0.next m0.input m0.terms rm) := ((r2'.ext e3).ext e5).ext e7
  refine r17.st (i := 2) (by show 2 < 5; decide) rfl fun H8 r18 m8 s8 => ?_
  refine (r27.mod m8 (by omega)).st (i := 2) (by show 2 < 5; decide) rfl fun H9 r29 m9 s9 => ?_
  obtain ⟨old, hold⟩ : ∃ old : Mf, old = { old0 with input := nmIn } := ⟨_, rfl⟩
  obtain ⟨m, hm'⟩ : ∃ m : Mf, m = { m0 with input := nmIn } := ⟨_, rfl⟩
  have m79 : Mod (fun b => b = H.size ∨ b = H1.size) H7 H9 := (m8.mono fun b _ q => .inl q).trans (m9.mono fun b _ q => .inr q)
  have e07 : Ext H H7 := Mod.trans e05 e7
  have y7 := e07.size
  have y57 := e57.size
  have e09 : Ext H H9 := ((Ext.mod (F := fun b => b = H.size ∨ b = H1.size) e07).trans m79).ext fun b hb => by omega
  have c9 : CrS H H5 H.size H1.size old m ro rm d H9 (dk0 400) := by
    refine ⟨⟨F, d7.keep fun b hb hl => m79.same b hl fun q => by have := f7 b hb; omega, f7⟩, e09, by omega, ?_, ?_⟩
    · rw [hold]; exact r18.mod m9 (by omega)
    · rw [hm']; exact r29
  have io : old.input = nmIn := by rw [hold]
  have im : m.input = nmIn := by rw [hm']
  have so' : old.terms.size + old.rels.length + thick old.rels ≤ 20000 := by rw [hold]; show old0.terms.size + old0.rels.length + thick old0.rels ≤ 20000; omega
  have sm' : m.terms.size + m.rels.length + thick m.rels ≤ 20000 := by rw [hm']; show m0.terms.size + m0.rels.length + thick m0.rels ≤ 20000; omega
  have oo' : 0 ≤ old.opts ∧ old.opts < 256 := by rw [hold]; exact oo
  have om' : 0 ≤ m.opts ∧ m.opts < 256 := by rw [hm']; exact om
  have ho' : Rels H ro old.rels := by rw [hold]; exact ho
  have hmr : Rels H rm m.rels := by rw [hm']; exact hm
  clear r29 r18 hold hm'
  obtain ⟨t1, w1, wcase⟩ := crash_plain (b := l) (by omega) io im so' sm' oo' om'
  have hp1 : H.size < H5.size := by omega
  have hp2 : H1.size < H5.size := by omega
  have hgF : gSteps < H5.size := by omega
  have l0 : (dk0 400).logs = 0 := rfl
  obtain ⟨F9, d9, n9, g9⟩ := c9.go y5 hp1 hp2
  refine Put_ok (n := nmIn) d9 (hb.keep fun ad _ hl => e09.same _ hl id) (fun hne ad ha => ?_) (by omega) (by rw [l0]; decide) (hg.mod e09 id) (n9 _ hgF) fun F10 H10 d10 S10 => ?_
  · obtain ⟨ad2, h2, h3⟩ := hb.addr (List.length_pos_iff.2 hne)
    rw [ha] at h2; cases h2
    exact n9 _ (by omega)
  have c10 := g9 _ _ _ d10 S10
  rw [w1] at c10 ⊢
  have lg1 : t1.logs ≤ 100 := by
    have := putM_logs (dk0 400) nmIn l
    rw [w1, l0] at this
    simp only at this
    omega
  refine br_mk (fun q => by simp at q) (fun _ => ?_)
  refine mf_ld c10.r1 ?_
  obtain ⟨F10', d10', n10, g10⟩ := c10.go y5 hp1 hp2
  refine Commit_ok (m := old) (rs := ro) d10' (ho'.ext c10.e) (by omega) oo' (by show t1.logs ≤ 60000000000; omega) (fun hy => by have := may_len hy so'; omega) (hg.mod c10.e id) (n10 _ hgF) fun F11 H11 d11 S11 => ?_
  have c11 := g10 _ _ _ d11 S11
  have lgc : ∀ (s : Dk) (x : Mf), (mayM x = true → (encM x).length ≤ 24000) → (s.commit x).1.logs ≤ s.logs + 100 := by
    intro s x hx
    unfold Dk.commit
    split
    · exact Nat.le_add_right _ _
    · rename_i hy
      have hy : mayM x = true := by simpa using hy
      have h1 := putM_logs s nmN (encM x)
      have h2 := hx hy
      split
      · omega
      · have := (s.putM nmN (encM x)).1.rename_logs nmN nmM
        omega
  rcases wcase with ⟨hy, w2⟩ | ⟨hyo, t2, w2, wk2⟩
  · have w2' : (t1, (0 : Int)).1.commit old = (t1, 2) := w2
    rw [w2'] at c11 ⊢
    refine br_mk (fun _ => ?_) (fun q => by simp at q)
    exact br_mk (fun _ => wk H11 c11.e) (fun q => by simp at q)
  have w2' : (t1, (0 : Int)).1.commit old = (t2, 0) := w2
  rw [w2'] at c11 ⊢
  have lg2 : t2.logs ≤ 200 := by
    have := lgc t1 old fun hy => may_len hy so'
    rw [w2] at this
    simp only at this
    omega
  refine br_mk (fun q => by simp at q) (fun _ => ?_)
  refine pick_ok (by decide) ?_
  generalize hi : (if (64 : Int) < 1 then (0 : Int) else p.emod 64) = i
  have hi2 : i ≤ 9223372036854775807 := by
    have := Int.emod_lt_of_pos p (show (0 : Int) < 64 by decide)
    have e2 : p % 64 = p.emod 64 := rfl
    rw [← hi, if_neg (by decide)]; omega
  obtain ⟨t4, f, w4, wf⟩ := wk2 i keep
  obtain ⟨F11', d11', n11, g11⟩ := c11.go y5 hp1 hp2
  refine Crash_ok (s := t2) d11' hi2 fun F14 H14 d14 S14 => ?_
  have c14 := g11 _ _ _ d14 S14
  have lg3 : (t2.setCrash i keep).logs = t2.logs := t2.setCrash_logs i keep
  obtain ⟨F14', d14', n14, g14⟩ := c14.go y5 hp1 hp2
  refine mf_ld c14.r2 ?_
  refine Commit_ok (m := m) (rs := rm) d14' (hmr.ext c14.e) (by omega) om' (by omega) (fun hy => by have := may_len hy sm'; omega) (hg.mod c14.e id) (n14 _ hgF) fun F15 H15 d15 S15 => ?_
  have c15 := g14 _ _ _ d15 S15
  have lg4 : ((t2.setCrash i keep).commit m).1.logs ≤ (t2.setCrash i keep).logs + 100 := lgc _ _ fun hy => may_len hy sm'
  rw [w4] at c15 lg4 ⊢
  obtain ⟨F15', d15', n15, g15⟩ := c15.go y5 hp1 hp2
  refine Down_ok d15' ?_
  refine Restart_ok d15' (by show t4.logs < 68719476736; have : t4.logs ≤ (t2.setCrash i keep).logs + 100 := lg4; omega) fun F17 H17 d17 S17 => ?_
  have c17 : CrS H H5 H.size H1.size old m ro rm d H17 t4.restart := g15 _ _ _ d17 S17
  obtain ⟨F17', d17', n17, g17⟩ := c17.go y5 hp1 hp2
  refine Get_ok (n := nmIn) d17' (hg.mod c17.e id) fun r9 H18 b18 l18 k18 f18 e18 => ?_
  have c18 := c17.ext e18
  have d18' := d17'.keep fun b _ hl => e18.same b hl id
  have g18 := c18.via y5 hp1 hp2 n17
  refine Recover_ok d18' (hg.mod c18.e id) fun F19 H19 rs d19 S19 o19 b19 => ?_
  have c19 := g18 _ _ _ d19 S19
  rw [zc_mf]
  refine newC_rowT fun H20 s20 r20 e20 => ?_
  refine mf_put (s := rs) r20 rfl fun H21 r21 m21 s21 => ?_
  have e1921 : Ext H19 H21 := ((Ext.mod (F := fun b => b = H19.size) e20).trans m21).ext fun b hb => by omega
  have c21 := c19.ext e1921
  have hb21 : ∀ L, Byts H18 r9 L → Byts H21 r9 L := fun L h => by
    refine (h.keep fun ad ha hl => ?_ : Byts H19 r9 L).keep fun ad _ hl => e1921.same _ hl id
    refine S19.mod.same _ hl fun q => ?_
    have h1 := d17'.lt _ q
    have h2 := f18 ad ha
    omega
  have oka : ∀ x : Mf, mayM x = true → ∀ y ∈ x.rels, svOK y = true := by
    intro x hx
    unfold mayM at hx
    simp only [Bool.and_eq_true, List.all_eq_true] at hx
    exact hx.2
  rcases wf with ⟨rfl, hdn⟩ | ⟨rfl, hym, wg, wr⟩ | ⟨rfl, hym, hdn, wg, wr⟩
  · refine br_mk (fun _ => ?_) (fun q => by simp at q)
    exact br_mk (fun _ => wk H21 c21.e) (fun q => by simp [hdn] at q)
  · refine br_mk (fun q => by simp at q) (fun _ => ?_)
    rw [wg] at b18 ⊢
    rw [wr] at o19 r21 ⊢
    refine br_mk (fun q => by simp at q) (fun _ => ?_)
    refine strB_eq (hb21 _ b18) ?_
    refine strB_eq (hb.keep fun ad _ hl => c21.e.same _ hl id) ?_
    refine br_mk (fun q => by simp at q) (fun _ => ?_)
    refine mf_ld r21 ?_
    refine mf_ld c21.r1 ?_
    refine SameM_ok (a := m) (b := old) (SlE.rels (o19.ext e1921)) (ho'.ext c21.e) (Nat.le_trans (rels_len hym) (by decide)) (oka m hym) (oka old hyo) fun H25 e25 => ?_
    have c25 := c21.ext e25
    refine mf_ld (r21.ext e25) ?_
    refine mf_ld c25.r2 ?_
    refine SameM_ok (a := m) (b := m) (SlE.rels ((o19.ext e1921).ext e25)) (hmr.ext c25.e) (Nat.le_trans (rels_len hym) (by decide)) (oka m hym) (oka m hym) fun H26 e26 => ?_
    have c26 := c25.ext e26
    rw [decide_eq_true (rfl : m = m)]
    refine br_mk (fun _ => ?_) (fun q => by simp at q)
    exact br_mk (fun _ => wk H26 c26.e) (fun q => by simp at q)
  · refine br_mk (fun q => by simp at q) (fun _ => ?_)
    rw [wg] at b18 ⊢
    rw [wr] at o19 r21 ⊢
    refine br_mk (fun q => by simp at q) (fun _ => ?_)
    refine strB_eq (hb21 _ b18) ?_
    refine strB_eq (hb.keep fun ad _ hl => c21.e.same _ hl id) ?_
    refine br_mk (fun q => by simp at q) (fun _ => ?_)
    refine mf_ld r21 ?_
    refine mf_ld c21.r1 ?_
    refine SameM_ok (a := old) (b := old) (SlE.rels (o19.ext e1921)) (ho'.ext c21.e) (Nat.le_trans (rels_len hyo) (by decide)) (oka old hyo) (oka old hyo) fun H25 e25 => ?_
    have c25 := c21.ext e25
    refine mf_ld (r21.ext e25) ?_
    refine mf_ld c25.r2 ?_
    rw [decide_eq_true (rfl : old = old)]
    refine SameM_ok (a := old) (b := m) (SlE.rels ((o19.ext e1921).ext e25)) (hmr.ext c25.e) (Nat.le_trans (rels_len hyo) (by decide)) (oka old hyo) (oka m hym) fun H26 e26 => ?_
    have c26 := c25.ext e26
    refine br_mk (fun q => by simp at q) (fun _ => ?_)
    exact br_mk (fun _ => wk H26 c26.e) (fun q => by simp [hdn] at q)
end Go.Proofs.YtjjfngnokbboeaaGreatDoor

/-
  A manifest found twice, with a crash between: in plain words.
-/
namespace Go.Proofs.YtjjfngnokbboeaaGreatDoor

theorem filter_absent {fs : List Fl} {n : ByteArray} (h : ∀ g ∈ fs, g.name ≠ n) : fs.filter (fun g => !(decide (g.name = n))) = fs :=
  List.filter_eq_self.2 fun g hg => by simpa using h g hg
theorem drop_files {t : Dk} {fs : List Fl} {n : ByteArray} (h : t.files = fs) (hd : (fs.map (·.name)).Nodup) : t.drop n = { t with files := fs.filter fun g => !(decide (g.name = n)) } := by
  unfold Dk.drop
  cases hx : t.idx n with
  | none =>
    have hn := Dk.idx_none hx
    rw [h] at hn
    simp only
    rw [filter_absent hn, ← h]
  | some i =>
    simp only
    unfold Dk.idx at hx
    rw [h] at hx ⊢
    rw [erase_filter fs i hd hx]
theorem nodup_filter {fs : List Fl} {p : Fl → Bool} (h : (fs.map (·.name)).Nodup) : ((fs.filter p).map (·.name)).Nodup := h.sublist (List.Sublist.map _ List.filter_sublist)
theorem clear_fine {d : Dk} {fs : List Fl} {q : Nat} {n : ByteArray} (h : Fine d fs q) (hd : (fs.map (·.name)).Nodup) : Fine (d.clear n).1 (fs.filter fun g => !(decide (g.name = n))) q ∧ (d.clear n).2 = 0 := by
  unfold Dk.clear
  by_cases hm : ∃ g ∈ fs, g.name = n
  · have hl : (d.len n).2 = 0 := by
      unfold Dk.len Dk.open
      rw [if_neg (by rw [h.down]; simp)]
      cases hx : d.idx n with
      | some i => rfl
      | none =>
        obtain ⟨g, hg, e⟩ := hm
        have := Dk.idx_none hx g (by rw [h.files]; exact hg)
        exact absurd e this
    rw [if_pos hl]
    exact remove_fine h hd hm
  · have hno : ∀ g ∈ fs, g.name ≠ n := fun g hg e => hm ⟨g, hg, e⟩
    have hx : d.idx n = none := by unfold Dk.idx; rw [h.files]; exact idx_absent hno
    have hl : ¬ (d.len n).2 = 0 := by
      unfold Dk.len Dk.open
      rw [if_neg (by rw [h.down]; simp), hx]; simp
    rw [if_neg hl, filter_absent hno]
    exact ⟨h, rfl⟩
theorem make_fine {d : Dk} {fs : List Fl} {q : Nat} {n : ByteArray} {b : List UInt8} (h : Fine d fs q) (hn : named n = true) (hno : ∀ g ∈ fs, g.name ≠ n) (hf : fs.length < 4096) (hq : usedL fs + (pieces (allM b)).length ≤ q) :
    ∃ pg : List Pg, pg.map (·.1) = (pieces (allM b)).map (sealP 3) ∧ Fine (d.make n b).1 (fs ++ [⟨n, pg, []⟩]) q ∧ (d.make n b).2 = 0 := by
  obtain ⟨rest, h1, h2, h3⟩ := make_tail (n := n) (b := b) h.down hn (by rw [h.files]; exact hno) (by rw [h.files]; exact hf) (by rw [h.files, h.quota]; exact hq)
  rcases h3 with ⟨a1, a2, ⟨pg, a3, a4⟩, a5⟩ | ⟨_, _, a3, _⟩
  · exact ⟨pg, a4, ⟨by rw [h1, h.files, a3], a2, a5 h.crash, h2.trans h.quota⟩, a1⟩
  · exact absurd h.crash a3
/-- A name is given anew, whatever stood under it. -/
theorem rename_any {d : Dk} {fs : List Fl} {f : Fl} {q : Nat} {n m : ByteArray} (h : Fine d (fs ++ [f]) q) (hd : (fs.map (·.name)).Nodup) (hf : f.name = n) (hno : ∀ g ∈ fs, g.name ≠ n) (hm : named m = true) (hnm : n ≠ m) :
    Fine (d.rename n m).1 ((fs.filter fun g => !(decide (g.name = m))) ++ [{ f with name := m }]) q ∧ (d.rename n m).2 = 0 := by
  unfold Dk.rename
  rw [if_neg (by rw [h.down]; simp), if_neg (by rw [hm]; simp), if_neg (by rw [idx_last h.files hf hno]; simp)]
  obtain ⟨t, ht, e⟩ := Dk.step_fine h fun t => if n.toList = m.toList then t else (t.drop m).setName n m
  rw [e, if_neg fun q => hnm (ba_eq q)]
  have hd2 : ((fs ++ [f]).map (·.name)).Nodup := by
    rw [List.map_append, List.nodup_append]
    refine ⟨hd, by simp, ?_⟩
    intro a ha b hb
    simp at hb
    obtain ⟨g, hg, rfl⟩ := List.mem_map.1 ha
    rw [hb, hf]; exact hno g hg
  have hfl : (fs ++ [f]).filter (fun g => !(decide (g.name = m))) = (fs.filter fun g => !(decide (g.name = m))) ++ [f] := by
    rw [List.filter_append, List.filter_cons, if_pos (by rw [hf]; simpa using hnm)]; rfl
  rw [drop_files ht.files hd2, hfl]
  generalize hg : (fs.filter fun g => !(decide (g.name = m))) = gs
  have hno2 : ∀ g ∈ gs, g.name ≠ n := by
    intro g hg2
    rw [← hg] at hg2
    exact hno g (List.mem_filter.1 hg2).1
  have hs : ({ t with files := gs ++ [f] } : Dk).setName n m = { t with files := (gs ++ [f]).modify gs.length fun f => { f with name := m } } := by
    unfold Dk.setName; rw [idx_last (d := { t with files := gs ++ [f] }) rfl hf hno2]
  rw [hs, modify_tail]
  exact ⟨⟨rfl, ht.down, ht.crash, ht.quota⟩, rfl⟩
theorem usedL_filter {p : Fl → Bool} : ∀ fs : List Fl, usedL (fs.filter p) ≤ usedL fs
  | [] => Nat.le_refl _
  | f :: fs => by
    have ih := usedL_filter (p := p) fs
    have e : usedL (f :: fs) = f.pages.length + usedL fs := by simp [usedL]
    rw [List.filter_cons]
    split
    · have e2 : usedL (f :: fs.filter p) = f.pages.length + usedL (fs.filter p) := by simp [usedL]
      omega
    · omega
/-- A manifest is committed, whatever lies about. -/
theorem commit_any {d : Dk} {fs : List Fl} {q : Nat} {m : Mf} (h : Fine d fs q) (hd : (fs.map (·.name)).Nodup) (hy : mayM m = true) (hf : fs.length < 4096) (hq : usedL fs + (pieces (allM (encM m))).length ≤ q) :
    ∃ pg : List Pg, pg.map (·.1) = (pieces (allM (encM m))).map (sealP 3) ∧ Fine (d.commit m).1 (((fs.filter fun g => !(decide (g.name = nmN))).filter fun g => !(decide (g.name = nmM))) ++ [⟨nmM, pg, []⟩]) q ∧ (d.commit m).2 = 0 := by
  obtain ⟨c1, c2⟩ := clear_fine (n := nmN) h hd
  have hfl : (fs.filter fun g => !(decide (g.name = nmN))).length ≤ fs.length := List.length_filter_le _ _
  have hu := usedL_filter (p := fun g => !(decide (g.name = nmN))) fs
  have hd1 := nodup_filter (p := fun g => !(decide (g.name = nmN))) hd
  have hno : ∀ g ∈ fs.filter (fun g => !(decide (g.name = nmN))), g.name ≠ nmN := fun g hg => by simpa using (List.mem_filter.1 hg).2
  obtain ⟨pg, h1, h2, h3⟩ := make_fine (n := nmN) (b := encM m) c1 (by decide) hno (by omega) (by omega)
  obtain ⟨h4, h5⟩ := rename_any (m := nmM) h2 hd1 rfl hno (by decide) (ne_of_data (by decide) : nmN ≠ nmM)
  have hp : d.putM nmN (encM m) = (d.clear nmN).1.make nmN (encM m) := by
    unfold Dk.putM; rw [if_neg (by rw [c2]; simp)]
  have hc : d.commit m = ((d.clear nmN).1.make nmN (encM m)).1.rename nmN nmM := by
    unfold Dk.commit
    rw [if_neg (by rw [hy]; simp), hp, if_neg (by rw [h3]; simp)]
  rw [hc]
  exact ⟨pg, h1, h4, h5⟩
theorem remove_upd {d : Dk} {fs : List Fl} {q : Nat} {n : ByteArray} (h : Upd d fs q) (hd : (fs.map (·.name)).Nodup) (hm : ∃ g ∈ fs, g.name = n) :
    (Upd (d.remove n).1 (fs.filter fun g => !(decide (g.name = n))) q ∧ (d.remove n).2 = 0) ∨ (Off (d.remove n).1 fs q ∧ (d.remove n).2 = 4) := by
  have hx : ¬ (d.idx n).isNone = true := by
    cases hx : d.idx n with
    | some i => simp
    | none =>
      obtain ⟨g, hg, e⟩ := hm
      exact absurd e (Dk.idx_none hx g (by rw [h.files]; exact hg))
  unfold Dk.remove
  rw [if_neg (by rw [h.down]; simp), if_neg hx]
  rcases d.step_res (fun t => t.drop n) with ⟨t, t1, t2, t3, _, _, _, t7⟩ | ⟨q1, _⟩
  · rw [t7, drop_files (t1.trans h.files) hd]
    exact .inl ⟨⟨rfl, t3.trans h.down, t2.trans h.quota⟩, rfl⟩
  · rw [q1]
    exact .inr ⟨⟨h.files, rfl, h.quota⟩, rfl⟩
/-- What a sweep leaves, with a crash or without. -/
theorem sweep_upd {f : Option Mf} {q : Nat} : ∀ (l : List (List UInt8)) (d : Dk) (fs : List Fl), Upd d fs q → (fs.map (·.name)).Nodup → l.Nodup → (∀ n ∈ l, ∃ g ∈ fs, g.name = baOf n) →
    (Upd (Dk.sweep f l d).1 (fs.filter fun g => keeps f g.name.data.toList || !(l.contains g.name.data.toList)) q ∧ (Dk.sweep f l d).2 = 0) ∨
    (∃ fs', Off (Dk.sweep f l d).1 fs' q ∧ (Dk.sweep f l d).2 = 4 ∧ fs'.Sublist fs ∧ ∀ g ∈ fs, keeps f g.name.data.toList = true → g ∈ fs')
  | [], d, fs, h, _, _, _ => by
    refine .inl ⟨?_, rfl⟩
    have : (fs.filter fun g => keeps f g.name.data.toList || !(([] : List (List UInt8)).contains g.name.data.toList)) = fs := List.filter_eq_self.2 fun g hg => by simp
    rw [this]; exact h
  | n :: l, d, fs, h, hd, hl, hm => by
    rw [List.nodup_cons] at hl
    rw [sweep_cons]
    by_cases hk : keeps f n = true
    · rw [if_pos hk]
      have e : (fs.filter fun g => keeps f g.name.data.toList || !((n :: l).contains g.name.data.toList)) = fs.filter fun g => keeps f g.name.data.toList || !(l.contains g.name.data.toList) := by
        refine List.filter_congr fun g hg => ?_
        by_cases hg2 : g.name.data.toList = n
        · rw [hg2, hk]; simp
        · rw [List.contains_cons, show (g.name.data.toList == n) = false by simpa using hg2, Bool.false_or]
      rw [e]
      exact sweep_upd l d fs h hd hl.2 fun x hx => hm x (List.mem_cons_of_mem _ hx)
    · rw [if_neg hk]
      have hk2 : keeps f n = false := by simpa using hk
      rcases remove_upd h hd (hm n List.mem_cons_self) with ⟨r1, r2⟩ | ⟨r1, r2⟩
      · rw [if_neg (by rw [r2]; simp)]
        have hin : ∀ g : Fl, keeps f g.name.data.toList = true → ¬ g.name = baOf n := fun g hg e => by
          rw [e] at hg
          have : (baOf n).data.toList = n := by simp [baOf]
          rw [this, hk2] at hg; cases hg
        rcases sweep_upd (f := f) l (d.remove (baOf n)).1 _ r1 (nodup_filter hd) hl.2 (fun x hx => by
          obtain ⟨g, hg, e⟩ := hm x (List.mem_cons_of_mem _ hx)
          refine ⟨g, List.mem_filter.2 ⟨hg, ?_⟩, e⟩
          have : ¬ g.name = baOf n := fun q => hl.1 (by
            rw [e] at q
            have : x = n := by have := congrArg (fun z : ByteArray => z.data.toList) q; simpa [baOf] using this
            rw [← this]; exact hx)
          simpa using this) with ⟨h1, h2⟩ | ⟨fs', h1, h2, h3, h4⟩
        · refine .inl ⟨?_, h2⟩
          have e : (fs.filter fun g => keeps f g.name.data.toList || !((n :: l).contains g.name.data.toList)) = (fs.filter fun g => !(decide (g.name = baOf n))).filter fun g => keeps f g.name.data.toList || !(l.contains g.name.data.toList) := by
            rw [List.filter_filter]
            refine List.filter_congr fun g hg => ?_
            by_cases hg2 : g.name.data.toList = n
            · have e3 : g.name = baOf n := by rw [← hg2]; rfl
              rw [hg2, hk2, e3]; simp
            · have e3 : ¬ g.name = baOf n := fun q => hg2 (by rw [q]; simp [baOf])
              rw [List.contains_cons, show (g.name.data.toList == n) = false by simpa using hg2, Bool.false_or]
              simp [e3]
          rw [e]; exact h1
        · refine .inr ⟨fs', h1, h2, h3.trans List.filter_sublist, fun g hg hkg => h4 g (List.mem_filter.2 ⟨hg, by simpa using hin g hkg⟩) hkg⟩
      · rw [if_pos (by rw [r2]; simp)]
        exact .inr ⟨fs, r1, r2, List.Sublist.refl _, fun g hg _ => hg⟩
theorem names_nodup {fs : List Fl} (hd : (fs.map (·.name)).Nodup) : (fs.map fun f => f.name.data.toList).Nodup := by
  have : (fs.map fun f => f.name.data.toList) = (fs.map (·.name)).map fun n => n.data.toList := by rw [List.map_map]; rfl
  rw [this]
  refine List.Pairwise.map _ ?_ hd
  intro a b hab e
  exact hab (ba_eq (by rw [ByteArray.toList_eq, ByteArray.toList_eq]; exact e))
theorem idx_mem {fs : List Fl} {f : Fl} {n : ByteArray} (hd : (fs.map (·.name)).Nodup) (hf : f ∈ fs) (hn : f.name = n) : ∃ i, fs.findIdx? (fun f => f.name.toList == n.toList) = some i ∧ fs[i]? = some f := by
  cases hx : fs.findIdx? (fun f => f.name.toList == n.toList) with
  | none =>
    rw [List.findIdx?_eq_none_iff] at hx
    have := hx f hf
    rw [hn] at this; simp at this
  | some i =>
    refine ⟨i, rfl, ?_⟩
    obtain ⟨h1, h2, _⟩ := List.findIdx?_eq_some_iff_getElem.1 hx
    have e : fs[i].name = n := ba_eq (by simpa using h2)
    obtain ⟨j, hj⟩ := List.mem_iff_getElem?.1 hf
    have hj1 : j < fs.length := (List.getElem?_eq_some_iff.1 hj).1
    have : (fs.map (·.name))[i]? = (fs.map (·.name))[j]? := by
      rw [List.getElem?_map, List.getElem?_map, hj, List.getElem?_eq_getElem h1]
      simp [e, hn]
    have hij := (List.getElem?_inj (by simpa using h1) hd).1 this
    rw [hij]; exact hj
def Still (s : Dk) (m : Mf) : Prop := ∀ i k, (s.setCrash i k).recover = ((m, true, 0), s.setCrash i k)
theorem still_of {s : Dk} {fs : List Fl} {q : Nat} {m : Mf} {pg : List Pg} (h : Upd s fs q) (hd : (fs.map (·.name)).Nodup) (hp : pg.map (·.1) = (pieces (allM (encM m))).map (sealP 3)) (hin : (⟨nmM, pg, []⟩ : Fl) ∈ fs) (hy : mayM m = true) (ho : 0 ≤ m.opts ∧ m.opts < 256) (hl : (encM m).length < 18446744073709551616) (hk : ∀ g ∈ fs, keeps (some m) g.name.data.toList = true) : Still s m := by
  intro i k
  have h1 := h.crash i k
  obtain ⟨j, hj, hf⟩ := idx_mem (n := nmM) hd hin rfl
  exact recover_still h1 (getM_upd h1 hj hf hp hl) hy ho hk
theorem logs0 {d : Dk} {fs : List Fl} (h : d.files = fs) (hl : ∀ g ∈ fs, g.log = []) : d.logs = 0 := by
  unfold Dk.logs
  rw [h]
  clear h
  induction fs with
  | nil => rfl
  | cons f fs ih =>
    rw [List.map_cons, List.sum_cons, ih fun g hg => hl g (List.mem_cons_of_mem _ hg), hl f List.mem_cons_self]; rfl
theorem after_log {d : Dk} {fs : List Fl} (h : ∀ g ∈ fs, g.log = []) : fs.map d.after = fs := by
  have : ∀ g ∈ fs, d.after g = g := by
    intro g hg
    have hl := h g hg
    cases g
    simp only at hl
    subst hl
    exact after_synced _ _ _
  rw [List.map_congr_left this]; simp
theorem twice_plain {m : Mf} {fs : List Fl} {s : Dk} (h : Fine s fs 400) (hd : (fs.map (·.name)).Nodup) (hemp : ∀ g ∈ fs, g.synced = [] ∧ g.log = []) (hlen : fs.length ≤ 100) (sm : m.terms.size + m.rels.length + thick m.rels ≤ 20000) (om : 0 ≤ m.opts ∧ m.opts < 256) :
    (mayM m = false ∧ s.commit m = (s, 2)) ∨ (mayM m = true ∧ ∃ s2, s.commit m = (s2, 0) ∧ s2.logs = 0 ∧ ∀ i k, ∃ s4 res, (s2.setCrash i k).recover = (res, s4) ∧ s4.logs = 0 ∧
      ((s4.down = false ∧ res = (m, true, 0) ∧ Still s4 m) ∨ (s4.down = true ∧ res = (mf0, false, 4) ∧ ∃ s6, s4.restart.recover = ((m, true, 0), s6) ∧ s6.logs = 0 ∧ s6.down = false ∧ Still s6 m))) := by
  cases hy : mayM m with
  | false => exact .inl ⟨rfl, by unfold Dk.commit; rw [if_pos hy]⟩
  | true =>
    refine .inr ⟨rfl, ?_⟩
    have hl := may_len hy sm
    have u0 : ∀ gs : List Fl, (∀ g ∈ gs, g.synced = [] ∧ g.log = []) → usedL gs = 0 := by
      intro gs
      induction gs with
      | nil => intro _; rfl
      | cons g gs ih =>
        intro hg
        have h1 := ih fun x hx => hg x (List.mem_cons_of_mem _ hx)
        have h2 := hg g List.mem_cons_self
        have e : usedL (g :: gs) = g.pages.length + usedL gs := by simp [usedL]
        rw [e, h1]
        unfold Fl.pages
        rw [h2.1, h2.2]; rfl
    have pie : (pieces (allM (encM m))).length ≤ 50 := by
      rw [pieces_length]
      have : (allM (encM m)).length = 8 + (encM m).length := by simp [allM]
      omega
    obtain ⟨pg, hp, f2, e2⟩ := commit_any h hd hy (by omega) (by rw [u0 fs hemp]; omega)
    generalize hgs : ((fs.filter fun g => !(decide (g.name = nmN))).filter fun g => !(decide (g.name = nmM))) = gs at f2
    have gsub : gs.Sublist fs := by rw [← hgs]; exact List.filter_sublist.trans List.filter_sublist
    have hlog : ∀ g ∈ gs ++ [(⟨nmM, pg, []⟩ : Fl)], g.log = [] := by
      intro g hg
      rcases List.mem_append.1 hg with q | q
      · exact (hemp g (gsub.subset q)).2
      · simp at q; rw [q]
    have hnd : ((gs ++ [(⟨nmM, pg, []⟩ : Fl)]).map (·.name)).Nodup := by
      rw [List.map_append, List.nodup_append]
      refine ⟨hd.sublist (List.Sublist.map _ gsub), by simp, ?_⟩
      intro a ha b hb
      simp at hb
      obtain ⟨g, hg, rfl⟩ := List.mem_map.1 ha
      rw [← hgs] at hg
      have := (List.mem_filter.1 hg).2
      rw [hb]; simpa using this
    have hin : (⟨nmM, pg, []⟩ : Fl) ∈ gs ++ [(⟨nmM, pg, []⟩ : Fl)] := by simp
    generalize gs ++ [(⟨nmM, pg, []⟩ : Fl)] = ks at f2 hlog hnd hin
    refine ⟨(s.commit m).1, Prod.ext rfl e2, logs0 f2.files hlog, fun i k => ?_⟩
    have f3 := f2.upd.crash i k
    generalize (s.commit m).1.setCrash i k = s3 at f3
    obtain ⟨j, hj, hfj⟩ := idx_mem (n := nmM) hnd hin rfl
    have gM : s3.getM nmM = (encM m, 0) := getM_upd f3 hj hfj hp (by omega)
    have hfm : s3.foundM = some m := by
      unfold Dk.foundM
      rw [gM, if_pos rfl]
      exact dec_enc hy om
    have hpm := list_upd f3
    have hrec : s3.recover = if (Dk.sweep (some m) s3.list s3).2 ≠ 0 then ((mf0, false, (Dk.sweep (some m) s3.list s3).2), (Dk.sweep (some m) s3.list s3).1) else ((m, true, 0), (Dk.sweep (some m) s3.list s3).1) := by
      unfold Dk.recover
      rw [gM, if_neg (by simp), hfm]
      rfl
    have hkM : keeps (some m) nmM.data.toList = true := by rw [keeps_iff]; simp
    rcases sweep_upd (f := some m) s3.list s3 ks f3 hnd (hpm.nodup_iff.2 (names_nodup hnd)) (fun n hn => by
      obtain ⟨g, hg, e⟩ := List.mem_map.1 (hpm.mem_iff.1 hn)
      exact ⟨g, hg, by rw [← e]; rfl⟩) with ⟨h1, h2⟩ | ⟨fs', h1, h2, h3, h4⟩
    · rw [if_neg (by rw [h2]; simp)] at hrec
      have e : (ks.filter fun g => keeps (some m) g.name.data.toList || !(s3.list.contains g.name.data.toList)) = ks.filter fun g => keeps (some m) g.name.data.toList := by
        refine List.filter_congr fun g hg => ?_
        have : s3.list.contains g.name.data.toList = true := by
          rw [List.contains_iff_mem]
          exact hpm.mem_iff.2 (List.mem_map.2 ⟨g, hg, rfl⟩)
        rw [this]; simp
      rw [e] at h1
      refine ⟨_, _, hrec, logs0 h1.files fun g hg => hlog g (List.mem_filter.1 hg).1, .inl ⟨h1.down, rfl, ?_⟩⟩
      exact still_of h1 (nodup_filter hnd) hp (List.mem_filter.2 ⟨hin, hkM⟩) hy om (by omega) fun g hg => (List.mem_filter.1 hg).2
    · rw [if_pos (by rw [h2]; simp), h2] at hrec
      have hlog' : ∀ g ∈ fs', g.log = [] := fun g hg => hlog g (h3.subset hg)
      refine ⟨_, _, hrec, logs0 h1.files hlog', .inr ⟨h1.down, rfl, ?_⟩⟩
      have f5 := h1.restart
      generalize (Dk.sweep (some m) s3.list s3).1 = s4 at f5
      rw [after_log hlog'] at f5
      have hnd' := hnd.sublist (List.Sublist.map (fun f : Fl => f.name) h3)
      have hin' := h4 _ hin hkM
      obtain ⟨j, hj, hfj⟩ := idx_mem (n := nmM) hnd' hin' rfl
      obtain ⟨r1, r2⟩ := recover_fine f5 hnd' (getM_fine f5 hj hfj hp (by omega)) hy om
      refine ⟨s4.restart.recover.2, Prod.ext r1 rfl, logs0 r2.files fun g hg => hlog' g (List.mem_filter.1 hg).1, r2.down, ?_⟩
      exact still_of r2.upd (nodup_filter hnd') hp (List.mem_filter.2 ⟨hin', hkM⟩) hy om (by omega) fun g hg => (List.mem_filter.1 hg).2
end Go.Proofs.YtjjfngnokbboeaaGreatDoor
