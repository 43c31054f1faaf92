/-
  What the given statements on manifests share: what is laid, and how their arguments are opened.
-/
import Derived.LaidHandle
import Derived.LaidLaws
import Derived.LaidMore
import Derived.MakeChecks
import Derived.OpenShut
import Derived.SevenTiedAt
import Derived.Stop.Joined
import Derived.Test.YtjjfngnokbboeaaGreatDoorCards
import Derived.Test.YtjjfngnokbboeaaGreatDoorRows
import Derived.Test.YtjjfngnokbboeaaGreatDoorTie
import Derived.Test.YtjjfngnokbboeaaGreatDoorDrd
import Derived.Test.YtjjfngnokbboeaaGreatDoorJ38
import Derived.Test.YtjjfngnokbboeaaGreatDoorJ39
import Derived.Test.YtjjfngnokbboeaaGreatDoorFxh
import Derived.Test.YtjjfngnokbboeaaGreatDoorFxn
import Derived.Test.YtjjfngnokbboeaaGreatDoorFxt
namespace Go.Proofs.YtjjfngnokbboeaaGreatDoor
open Go.ChangeShapes Go.WideShapes Go.ChangeAt Go.RowKit

theorem pprog_own : ownKnob Tryz.prog.godebug = none := by kernel_rfl
theorem pprog_laidOut : laidOutB Tryz.prog = true := by kernel_rfl
def laidM : List (String × DataW Unit) := [("fathom/page.steps", Rows.laid_fathom_page_steps), ("bytes.ErrTooLarge", Rows.laid_bytes_ErrTooLarge)]
def litS : List (DataW Unit) := stepsL.map fun b => .lit (.int .u32 (b.toNat : Int))
theorem litS_eq : (Rows.laid_fathom_page_steps : DataW Unit) = .agg litS := by rfl
theorem gl_of_laid {W : World} (h : laidMetH Tryz.prog laidM W) : Gl W.heap := by
  rw [MakeChecks.laidMetH_plain _ _ _ (by kernel_rfl)] at h
  obtain ⟨ps, ⟨g0, t0, cs0, f0, p0, q0, hg0, ht0, hv0, hd0, _, _⟩, _, _⟩ := h
  obtain rfl := Option.some.inj ((show Tryz.prog.globalNamed "fathom/page.steps" = some gSteps by kernel_rfl).symm.trans hg0)
  obtain rfl := Option.some.inj ((show (Tryz.prog.globals[gSteps]?).map (·.type) = some 163 by kernel_rfl).symm.trans ht0)
  obtain ⟨xs, m, _, hx, hlen, hn, hel⟩ := DataW.trod_array (n := 16) (e := 127) (by kernel_rfl) hd0
  have hlit : litS = xs.map (·.1) := by
    have h1 : (Rows.laid_fathom_page_steps : DataW Unit) = .agg (xs.map (·.1)) := (Prod.mk.inj hx).1
    rw [litS_eq] at h1
    exact DataW.agg.inj h1
  intro i hi
  have hi' := hel i hi
  rw [show Tryz.prog.cellsOf 127 = 1 by kernel_rfl, Nat.mul_one] at hi'
  have hil : i < xs.length := by omega
  rw [List.getElem?_eq_getElem hil] at hi'
  obtain ⟨k, e1, e2, _⟩ := DataW.trod_int (k := .u32) (by kernel_rfl) hi'
  have hk : litS[i]? = some (.lit (.int .u32 k)) := by rw [hlit, List.getElem?_map, List.getElem?_eq_getElem hil, e2]; rfl
  unfold litS at hk
  rw [List.getElem?_map] at hk
  obtain ⟨b, hb, eb⟩ := Option.map_eq_some_iff.1 hk
  have ek : k = (b.toNat : Int) := by
    have := eb
    simp only [DataW.lit.injEq, Lit.int.injEq, true_and] at this
    exact this.symm
  have hgd : stepsL.getD i 0#32 = b := by simp [List.getD, hb]
  rw [hgd, ← ek]
  have hc := World.var?_cell hg0 hv0 i
  have hcs : cs0[i]? = some (.int .u32 k) := by
    have h2 : ((cs0.toList.drop i).take 1)[0]? = some (Value.int .u32 k) := by rw [e1]; rfl
    rw [List.getElem?_take, if_pos (by decide), List.getElem?_drop, Nat.add_zero] at h2
    simpa using h2
  rw [hcs] at hc
  exact hc
theorem door_met (os : Os) (args : Array Value) : laidMetH Tryz.prog laidM ((World.doorLaid Tryz.prog 400 os).forCall (fun _ _ => 0) ⟨#[], args, []⟩).memory :=
  laidMetH_of_parts3 (fuel := 8) (laidMet_of_run' 8 (by kernel_rfl) (by kernel_rfl)) (by kernel_rfl) (by kernel_rfl)

/-- A field: a slice of structs. -/
theorem cells_structs {α : Type} {H : Type} {enc : TypeId × Value → H} {P : Program} {W : World} {t e : TypeId} {cs0 : List Value} {y0 : DataW H × List MemPlace} {E : Enc α} {fine : α → Prop} {fuel0 : Nat} (ht : P.underlying t = some (.slice e)) (hc : P.cellsOf e = E.size) (hs : 0 < E.size)
    (each : ∀ (a : Addr) (cs : List Value) (fuel : Nat) (y : DataW H × List MemPlace), cs.length = E.size → (∀ j, j < E.size → cs[j]? = hCell W.heap (a.add j)) → DataW.trod enc P W 0 (fun _ => true) true fuel e cs = some y → ∃ x : α, fine x ∧ cs = E.enc x)
    (hf : DataW.trod enc P W 0 (fun _ => true) true fuel0 t cs0 = some y0) :
    ∃ (s : Sl) (xs : List α), cs0 = [Sl.v s] ∧ RdE E W.heap s.a xs ∧ s.n = xs.length ∧ s.n ≤ s.c ∧ ∀ x ∈ xs, fine x := by
  rcases Go.Deep.open_slice ht hf with ⟨hcs, _⟩ | ⟨a, len, cap, m, n, D, Pl, hcs, _, hl, hm, hmm, _, hx⟩
  · exact ⟨Sl.mk none 0 0, [], hcs, Reads.nil _ _, rfl, Nat.le_refl _, by simp⟩
  · have hlm : len ≤ m := by rw [hmm]; simp; exact hl
    have each' : ∀ i, i < len → ∃ x : α, fine x ∧ ∀ j u, (E.enc x)[j]? = some u → hCell W.heap (a.add (i * E.size + j)) = some u := by
      intro i hi
      obtain ⟨cs', h1, h2⟩ := hx i (by omega)
      rw [hc] at h1
      obtain ⟨_, hlen, hcell⟩ := World.cells?_some h1
      have hcell' : ∀ j, j < E.size → cs'[j]? = hCell W.heap (a.add (i * E.size + j)) := fun j hj => by
        have := hcell j hj
        rw [Go.Deep.add_add] at this
        have h9 : hCell W.heap (a.add (i * E.size + j)) = cs'[j]? := this
        exact h9.symm
      obtain ⟨x, g1, g2⟩ := each (a.add (i * E.size)) cs' _ _ hlen (fun j hj => by rw [hcell' j hj, add_add]) h2
      refine ⟨x, g1, fun j u hu => ?_⟩
      have hj : j < E.size := by have := (List.getElem?_eq_some_iff.1 hu).1; rwa [E.len] at this
      rw [← hcell' j hj, g2]; exact hu
    obtain ⟨xs, h1, h2⟩ := collect (Q := fun i (x : α) => fine x ∧ ∀ j u, (E.enc x)[j]? = some u → hCell W.heap (a.add (i * E.size + j)) = some u) len each'
    refine ⟨Sl.mk (some a) len cap, xs, hcs, ?_, h1.symm, hl, fun x hx => ?_⟩
    · intro q u hu
      have hq : q < xs.length * E.size := by have := (List.getElem?_eq_some_iff.1 hu).1; rwa [Enc.all_length] at this
      have hdm : q = q / E.size * E.size + q % E.size := (Nat.div_add_mod' q E.size).symm
      have hmod := Nat.mod_lt q hs
      rw [hdm, Enc.all_get E xs (q / E.size) (q % E.size) hmod] at hu
      have hq7 : q / E.size < xs.length := Nat.div_lt_of_lt_mul (by rw [Nat.mul_comm]; exact hq)
      rw [List.getElem?_eq_getElem hq7] at hu
      refine ⟨a, rfl, ?_⟩
      have := (h2 (q / E.size) hq7).2 (q % E.size) u hu
      rwa [← hdm] at this
    · obtain ⟨i, hi, rfl⟩ := List.getElem_of_mem hx
      exact (h2 i hi).1
def svdFields : List (TypeId × Nat) := [(ty_string, 0), (ty_string, 1), (ty_int, 2)]
theorem svd_fields : ∃ fs, Tryz.prog.underlying ty_api_Saved = some (.struct fs) ∧ fs.toList.map (fun f => (f.type, f.offset)) = svdFields := by
  have hb : (match Tryz.prog.underlying ty_api_Saved with | some (.struct fs) => (fs.toList.map (fun f => (f.type, f.offset))) == svdFields | _ => false) = true := by kernel_rfl
  split at hb
  · rename_i fs q; exact ⟨fs, q, by simpa using hb⟩
  · cases hb
def mfFields : List (TypeId × Nat) := [(ty_uint8, 0), (ty_int, 1), (ty_string, 2), (ty_string, 3), (ty_sl_api_Saved, 4)]
theorem mf_fields : ∃ fs, Tryz.prog.underlying ty_api_Manifest = some (.struct fs) ∧ fs.toList.map (fun f => (f.type, f.offset)) = mfFields := by
  have hb : (match Tryz.prog.underlying ty_api_Manifest with | some (.struct fs) => (fs.toList.map (fun f => (f.type, f.offset))) == mfFields | _ => false) = true := by kernel_rfl
  split at hb
  · rename_i fs q; exact ⟨fs, q, by simpa using hb⟩
  · cases hb
set_option maxRecDepth 100000 in
/-- An argument: a manifest. -/
theorem open_mf {H : Type} {enc : TypeId × Value → H} {r : Reach} {b0 : Nat} {W : World} {v : Value} {d : DataW H} {ps : List MemPlace}
    (hval : Value.okWide Tryz.prog W r b0 ty_api_Manifest v) (h : DataW.Trod enc Tryz.prog W 0 (fun _ => true) true ty_api_Manifest v d ps) :
    ∃ (m : Mf) (rs : Sl), v = .agg #[(.int .u8 m.opts), (.int .i64 m.next), (.string m.input), (.string m.terms), rs.v] ∧ Rels W.heap rs m.rels ∧ 0 ≤ m.opts ∧ m.opts < 256 ∧ rs.n ≤ rs.c := by
  obtain ⟨fs, hst, hfs⟩ := mf_fields
  obtain ⟨cs, rfl, hsz⟩ := okWide_struct hst hval
  rw [show Tryz.prog.cellsOf ty_api_Manifest = 5 by kernel_rfl] at hsz
  obtain ⟨fuel, hf⟩ := h
  obtain ⟨k, fld⟩ := trod_field hst hfs hf
  have c1 : ∀ t ∈ ([ty_uint8, ty_int, ty_string, ty_sl_api_Saved] : List TypeId), Tryz.prog.cellsOf t = 1 := by
    have hb : ([ty_uint8, ty_int, ty_string, ty_sl_api_Saved] : List TypeId).all (fun t => Nat.beq (Tryz.prog.cellsOf t) 1) = true := by kernel_rfl
    intro t ht
    exact Nat.eq_of_beq_eq_true (List.all_eq_true.1 hb t ht)
  have hcl : (Value.agg cs).cells.toList.length = 5 := by simpa [Value.cells] using hsz
  have hce : (Value.agg cs).cells = cs := rfl
  obtain ⟨v0, v1, v2, v3, v4, hcs⟩ : ∃ v0 v1 v2 v3 v4, cs.toList = [v0, v1, v2, v3, v4] := by
    match hq : cs.toList, (by rw [hce] at hcl; exact hcl : cs.toList.length = 5) with
    | [v0, v1, v2, v3, v4], _ => exact ⟨v0, v1, v2, v3, v4, rfl⟩
  rw [hce, hcs] at fld
  obtain ⟨y0, g0⟩ := fld 0 ty_uint8 0 rfl
  obtain ⟨y1, g1⟩ := fld 1 ty_int 1 rfl
  obtain ⟨y2, g2⟩ := fld 2 ty_string 2 rfl
  obtain ⟨y3, g3⟩ := fld 3 ty_string 3 rfl
  obtain ⟨y4, g4⟩ := fld 4 ty_sl_api_Saved 4 rfl
  rw [c1 _ (by simp)] at g0 g1 g2 g3 g4
  obtain ⟨x0, e0, _, w0⟩ := DataW.trod_int (k := .u8) (by kernel_rfl) g0
  obtain ⟨x1, e1, _⟩ := DataW.trod_int (k := .i64) (by kernel_rfl) g1
  obtain ⟨x2, e2, _⟩ := DataW.trod_string (by kernel_rfl) g2
  obtain ⟨x3, e3, _⟩ := DataW.trod_string (by kernel_rfl) g3
  obtain ⟨s, xs, e4, hrd, hn, hcap, _⟩ := cells_structs (E := ESv) (fine := fun _ => True) (e := ty_api_Saved) (by kernel_rfl) (by kernel_rfl) (by decide) (by
    intro a cs fuel y hlen _ hy
    obtain ⟨fs, hst, hfs⟩ := svd_fields
    obtain ⟨k, fld⟩ := trod_field hst hfs hy
    have c1 : ∀ t ∈ ([ty_int, ty_string] : List TypeId), Tryz.prog.cellsOf t = 1 := by
      have hb : ([ty_int, ty_string] : List TypeId).all (fun t => Nat.beq (Tryz.prog.cellsOf t) 1) = true := by kernel_rfl
      intro t ht
      exact Nat.eq_of_beq_eq_true (List.all_eq_true.1 hb t ht)
    match cs, hlen with
    | [v0, v1, v2], _ =>
      obtain ⟨y0, g0⟩ := fld 0 ty_string 0 rfl
      obtain ⟨y1, g1⟩ := fld 1 ty_string 1 rfl
      obtain ⟨y2, g2⟩ := fld 2 ty_int 2 rfl
      rw [c1 _ (by simp)] at g0 g1 g2
      obtain ⟨x0, e0, _⟩ := DataW.trod_string (by kernel_rfl) g0
      obtain ⟨x1, e1, _⟩ := DataW.trod_string (by kernel_rfl) g1
      obtain ⟨x2, e2, _⟩ := DataW.trod_int (k := .i64) (by kernel_rfl) g2
      simp at e0 e1 e2
      subst e0 e1 e2
      exact ⟨⟨x0, x1, x2⟩, trivial, rfl⟩) g4
  simp at e0 e1 e2 e3 e4
  subst e0 e1 e2 e3 e4
  obtain ⟨w1, w2⟩ := fits_u8 w0
  refine ⟨⟨x0, x1, x2, x3, xs⟩, s, ?_, ⟨hrd, hn⟩, w1, w2, hcap⟩
  congr 1
  rw [← Array.toList_inj, hcs]
/-- An argument: bytes. -/
theorem byts_of {W : World} {s : Sl} {l : List Int} (h : Ints .u8 W.heap s l) (hw : ∀ x ∈ l, (Lit.int .u8 x).wf = true) : ∃ b : List UInt8, Byts W.heap s b := by
  refine ⟨l.map fun x => UInt8.ofNat x.toNat, ?_⟩
  have e : u8i (l.map fun x => UInt8.ofNat x.toNat) = l := by
    unfold u8i
    rw [List.map_map]
    have : ∀ x ∈ l, ((fun x : UInt8 => (x.toNat : Int)) ∘ fun x : Int => UInt8.ofNat x.toNat) x = x := by
      intro x hx
      obtain ⟨w1, w2⟩ := fits_u8 (hw x hx)
      simp only [Function.comp]
      rw [UInt8.toNat_ofNat']; omega
    rw [List.map_congr_left this]; simp
  show Ints .u8 W.heap s (u8i _)
  rw [e]; exact h
end Go.Proofs.YtjjfngnokbboeaaGreatDoor

/-
  What the document's 'Get' finds, in plain words: the same as the program's.
-/
namespace Go.Proofs.YtjjfngnokbboeaaGreatDoor

def flagR (k : Nat) (li : List (UInt8 × List UInt8)) : Bool := decide (0 < k) && (li.all (fun x => decide (x.1 = 3)) && (if li.length < k then li else li.dropLast).all (fun x => decide (x.2.length = 504)))
theorem flagR_nil (k : Nat) : flagR k [] = decide (0 < k) := by
  unfold flagR
  simp
theorem flagR_step {k : Nat} {li : List (UInt8 × List UInt8)} {x : UInt8 × List UInt8} (h : li.length < k) : flagR k (li ++ [x]) = ((flagR k li && decide (x.1 = 3)) && (decide (li.length + 1 = k) || decide (x.2.length = 504))) := by
  unfold flagR
  rw [if_pos h, List.length_append, List.length_singleton]
  by_cases hk : li.length + 1 = k
  · rw [if_neg (by omega), List.dropLast_concat]
    rw [List.all_append]
    simp only [hk, decide_true, Bool.true_or, Bool.and_true, List.all_cons, List.all_nil]
    cases decide (0 < k) <;> cases li.all (fun x => decide (x.1 = 3)) <;> cases decide (x.1 = 3) <;> cases li.all (fun x => decide (x.2.length = 504)) <;> rfl
  · rw [if_pos (by omega), List.all_append, List.all_append]
    simp only [hk, decide_false, Bool.false_or, List.all_cons, List.all_nil, Bool.and_true]
    cases decide (0 < k) <;> cases li.all (fun x => decide (x.1 = 3)) <;> cases decide (x.1 = 3) <;> cases li.all (fun x => decide (x.2.length = 504)) <;> cases decide (x.2.length = 504) <;> rfl
theorem bytesP_504 {l : List (UInt8 × List UInt8)} (h : l.all (fun x => decide (x.2.length = 504)) = true) : (bytesP l).length = 504 * l.length := by
  induction l with
  | nil => rfl
  | cons x l ih =>
    rw [List.all_cons, Bool.and_eq_true, decide_eq_true_eq] at h
    have e : bytesP (x :: l) = x.2 ++ bytesP l := rfl
    rw [e, List.length_append, List.length_cons, ih h.2, h.1]; omega
theorem all_and2 {α : Type} (p q : α → Bool) : ∀ l : List α, l.all (fun x => p x && q x) = (l.all p && l.all q)
  | [] => rfl
  | x :: l => by
    rw [List.all_cons, List.all_cons, List.all_cons, all_and2 p q l]
    cases p x <;> cases q x <;> simp
/-- What the document finds among pages told. -/
def foundR (l : List (UInt8 × List UInt8)) : List UInt8 × Int :=
  if flagR l.length l = true ∧ 8 ≤ (bytesP l).length ∧ deN ((bytesP l).take 8) = (bytesP l).length - 8 ∧ ((bytesP l).length + 503) / 504 = l.length then ((bytesP l).drop 8, 0) else ([], 280)
theorem foundR_eq {l : List (UInt8 × List UInt8)} (h5 : ∀ x ∈ l, x.2.length ≤ 504) : foundR l = foundP l := by
  unfold foundR foundP
  rcases List.eq_nil_or_concat l with rfl | ⟨l', x, rfl⟩
  · rw [if_neg, if_neg]
    · rintro ⟨_, q, _⟩; simp [bytesP] at q
    · rintro ⟨_, q, _⟩; simp [bytesP] at q
  · rw [List.concat_eq_append] at h5 ⊢
    have h5x := h5 x (by simp)
    have hf : flagR (l' ++ [x]).length (l' ++ [x]) = (l'.all (fun x => decide (x.1 = 3)) && decide (x.1 = 3) && l'.all (fun x => decide (x.2.length = 504))) := by
      unfold flagR
      rw [if_neg (by omega), List.dropLast_concat, List.all_append]
      simp
    have hw : wholeP (l' ++ [x]) = (l'.all (fun x => decide (x.1 = 3)) && decide (x.1 = 3) && l'.all (fun x => decide (x.2.length = 504)) && decide (0 < x.2.length)) := by
      rw [whole_snoc]
      rw [all_and2]
      cases l'.all (fun x => decide (x.1 = 3)) <;> cases decide (x.1 = 3) <;> cases l'.all (fun x => decide (x.2.length = 504)) <;> cases decide (0 < x.2.length) <;> rfl
    rw [hf, hw]
    have key : l'.all (fun x => decide (x.2.length = 504)) = true → (((bytesP (l' ++ [x])).length + 503) / 504 = (l' ++ [x]).length ↔ 0 < x.2.length) := by
      intro h4
      have := bytesP_504 h4
      rw [bytesP_snoc, List.length_append, this, List.length_append, List.length_singleton]
      omega
    generalize l'.all (fun x => decide (x.2.length = 504)) = A at key ⊢
    generalize (l'.all (fun x => decide (x.1 = 3)) && decide (x.1 = 3)) = B
    cases A with
    | false => simp
    | true =>
      have key := key rfl
      simp only [Bool.and_true, Bool.and_eq_true, decide_eq_true_eq]
      by_cases h0 : 0 < x.2.length
      · have := key.2 h0
        simp only [h0, and_true, this]
      · have h1 : ¬ ((bytesP (l' ++ [x])).length + 503) / 504 = (l' ++ [x]).length := fun q => h0 (key.1 q)
        rw [if_neg, if_neg]
        · rintro ⟨⟨_, q⟩, _⟩; exact h0 q
        · rintro ⟨_, _, _, q⟩; exact h1 q
end Go.Proofs.YtjjfngnokbboeaaGreatDoor

/-
  The document's disk: List, rank, Restart, Copy.
-/
namespace Go.Proofs.YtjjfngnokbboeaaGreatDoor
open Go.MapKept

theorem strB_list (l : List UInt8) : (strB l).toList = l := by
  rw [ByteArray.toList_eq]; rfl

theorem text_ld {H : Heap} {z : Sl} {L : List (List UInt8)} (h : SlE EN ty_string H z L) {i : Nat} (hi : i < L.length) {K : ByteArray → Prop} (hK : K (strB L[i])) : optK z.a fun a => (0 ≤ (i : Int) ∧ (i : Int) < (z.n : Int)) ∧ ld cStr H (a.add ((i : Int).toNat * 1)) K := by
  have hn := h.n (by decide)
  obtain ⟨ad, ha⟩ := RdE.addr h.rd (by decide) (by omega)
  rw [ha]
  refine ⟨⟨by omega, by omega⟩, ?_⟩
  simp only [Int.toNat_natCast]
  exact SlE.one (c := cStr) (y := strB L[i]) h (List.getElem?_eq_getElem hi) rfl rfl ha hK

theorem sorted_insert {L : List (List UInt8)} {x : List UInt8} {a : Nat} (hL : L.Pairwise (· ≤ ·)) (ha : a ≤ L.length) (h1 : ∀ j (hj : j < L.length), j < a → L[j] < x) (h2 : ∀ j (hj : j < L.length), a ≤ j → x ≤ L[j]) : (L.take a ++ [x] ++ L.drop a).Pairwise (· ≤ ·) := by
  rw [List.append_assoc, List.pairwise_append]
  refine ⟨hL.sublist (List.take_sublist _ _), ?_, ?_⟩
  · rw [List.singleton_append, List.pairwise_cons]
    refine ⟨fun y hy => ?_, hL.sublist (List.drop_sublist _ _)⟩
    obtain ⟨k, hk, rfl⟩ := List.getElem_of_mem hy
    simp at hk ⊢
    exact h2 (a + k) (by omega) (by omega)
  · intro y hy z hz
    obtain ⟨k, hk, rfl⟩ := List.getElem_of_mem hy
    simp at hk
    have hyx : L[k] < x := h1 k (by omega) (by omega)
    simp only [List.getElem_take]
    rcases List.mem_append.1 hz with q | q
    · simp at q; subst q; exact List.le_of_lt hyx
    · obtain ⟨m, hm, rfl⟩ := List.getElem_of_mem q
      simp at hm ⊢
      exact List.le_trans (List.le_of_lt hyx) (h2 (a + m) (by omega) (by omega))

theorem RList_ok {F : Nat → Prop} {d : Nat} {s : Dk} {H : Heap} {K : Sl → Heap → Prop} (h : RefAt F H d s) (hK : ∀ l H', SlE EN ty_string H' l s.list → Mod (fun _ => False) H H' → (∀ b, ownB l b → H.size ≤ b) → K l H') : fathomref01_Disk_List.sp (at0 d) H K := by
  obtain ⟨fl, gs, cin, kp, g, _⟩ := h
  refine fathomref01_Disk_List.of ?_
  unfold fathomref01_Disk_List.vc
  simp only [optK_eq]
  have hfl := g.wf.files
  have hn := g.files.n
  have fin : ∀ (L : List (List UInt8)) (l : Sl) (A : Heap), s.down = false → SlE EN ty_string A l L → L.Pairwise (· ≤ ·) → L.Perm (s.files.map fun f => f.name.toList) → Mod (fun _ => False) H A → (∀ b, ownB l b → H.size ≤ b) → K l A := by
    intro L l A hd o hs hp m f
    refine hK l A ?_ m f
    have e : s.list = L := by
      unfold Dk.list; rw [hd]
      simp only [Bool.false_eq_true, if_false]
      rw [← texts_sorted_eq hp]
      have tr : ∀ a b c : List UInt8, decide (a ≤ b) = true → decide (b ≤ c) = true → decide (a ≤ c) = true := fun a b c h1 h2 => by simp only [decide_eq_true_eq] at *; exact List.le_trans h1 h2
      have to : ∀ a b : List UInt8, (decide (a ≤ b) || decide (b ≤ a)) = true := fun a b => by simp only [Bool.or_eq_true, decide_eq_true_eq]; exact List.le_total a b
      refine List.Perm.eq_of_pairwise (le := fun a b => decide (a ≤ b) = true) (fun a b _ _ h1 h2 => ?_) (List.pairwise_mergeSort tr to L) (hs.imp fun h => by simpa using h) (List.mergeSort_perm L _)
      simp only [decide_eq_true_eq] at h1 h2
      exact List.le_antisymm h1 h2
    rw [e]; exact o
  refine loop_upto s.files.length (fun k x H1 => x.2 = (k : Int) ∧ Mod (fun _ => False) H H1 ∧ (∀ b, ownB x.1 b → H.size ≤ b) ∧ (s.down = true → k = 0 ∧ x.1 = Sl.mk none 0 0) ∧ ∃ L, SlE EN ty_string H1 x.1 L ∧ L.Pairwise (· ≤ ·) ∧ L.Perm ((s.files.take k).map fun f => f.name.toList)) ⟨rfl, .refl _ _, (by rintro b ⟨ad, q, _⟩; cases q), fun _ => ⟨rfl, rfl⟩, [], SlE.nil _ _ _, List.Pairwise.nil, by simp⟩ ?_
  rintro k ⟨l, i⟩ H1 next hk ⟨hi, m1, f1, hdn, L, o1, hs, hp⟩ hnext
  simp only at hi
  subst hi
  simp only at f1 hdn o1 hnext ⊢
  have d1 := g.head.ext m1
  have F1 : RefFiles H1 fl gs s.files := g.files.keep fun b hb hl => m1.same b hl id
  have downK : s.down = true → K l H1 := by
    intro hd
    obtain ⟨_, e⟩ := hdn hd
    rw [e]
    refine hK _ H1 ?_ m1 (by rintro b ⟨ad, q, _⟩; cases q)
    unfold Dk.list; rw [hd]; exact SlE.nil _ _ _
  refine d1.ld (c := cSl) (i := 0) (x := fl) rfl ?_
  refine br_mk (fun hc => ?_) (fun hc => ?_)
  · have hlt : k < s.files.length := by rw [hn] at hc; simpa using hc
    refine d1.ld (c := cBool) (i := 8) (x := s.down) rfl ?_
    cases hd : s.down with
    | true => exact br_f rfl (downK hd)
    | false =>
      refine br_t rfl ?_
      have hf : s.files[k]? = some s.files[k] := List.getElem?_eq_getElem hlt
      obtain ⟨f, hfe⟩ : ∃ f, f = s.files[k] := ⟨_, rfl⟩
      rw [← hfe] at hf
      obtain ⟨gg, hg, _, _⟩ := F1.gAt hf
      have hLl : L.length = k := by rw [hp.length_eq]; simp; omega
      have hln := o1.n (by decide)
      have hcap := o1.cap
      have hx := strB_toList f.name
      have ins : ∀ a : Nat, a ≤ L.length → (∀ j (hj : j < L.length), j < a → L[j] < f.name.toList) → (∀ j (hj : j < L.length), a ≤ j → f.name.toList ≤ L[j]) →
          ((0 ≤ (a : Int) ∧ (a : Int) ≤ (l.c : Int)) ∧ doT cSl Tryz.prog (Builtin.append_ #[ty_sl_string, ty_sl_string] ty_sl_string #[(.slice none 0 0), (.slice (slA l.a l.c 0 1) ((a : Int).toNat - 0) (l.c - 0))]) H1 fun (s_3 : Sl) H7 => ld cSl H7 (Addr.add ⟨d, 0, none⟩ 0) fun (x_7 : Sl) => optK x_7.a fun a_8 => (0 ≤ (k : Int) ∧ (k : Int) < (x_7.n : Int)) ∧ ld cStr H7 ((a_8.add ((k : Int).toNat * 3)).add 0) fun (x_8 : ByteArray) => newC H7 #[(.string x_8)] ty_string fun p_2 H8 => doT cSl Tryz.prog (Builtin.append_ #[ty_sl_string, ty_sl_string] ty_sl_string #[s_3.v, (.slice (some p_2) 1 1)]) H8 fun (s_4 : Sl) H9 => (0 ≤ (a : Int) ∧ (a : Int) ≤ (l.n : Int)) ∧ doT cSl Tryz.prog (Builtin.append_ #[ty_sl_string, ty_sl_string] ty_sl_string #[s_4.v, (.slice (slA l.a l.c (a : Int).toNat 1) (l.n - (a : Int).toNat) (l.c - (a : Int).toNat))]) H9 fun (s_5 : Sl) H10 => next (s_5, IntKind.i64.wrap ((k : Int) + (1 : Int))) H10) := by
        intro a ha h1 h2
        refine ⟨⟨by omega, by omega⟩, ?_⟩
        have t1 : RdE EN H1 (slA l.a l.c 0 1) (L.take a) := by rw [slA_zero']; exact o1.rd.take
        refine SlE.append (E := EN) elText (s := Sl.mk none 0 0) (x := ⟨slA l.a l.c 0 1, (a : Int).toNat - 0, l.c - 0⟩) (l := []) (SlE.nil _ _ _) t1 (by simp; omega) (by simp; omega) (by simp; omega) fun l2 H2 o2 g2 _ => ?_
        have f2 : ∀ b, ownB l2 b → H1.size ≤ b := fun b hb => (g2.2 b hb).resolve_left (by rintro ⟨ad, q, _⟩; cases q)
        have m2 : Mod (fun _ => False) H1 H2 := g2.1.mono fun b _ hb => by obtain ⟨ad, q, _⟩ := hb; cases q
        refine (d1.ext m2).ld (c := cSl) (i := 0) (x := fl) rfl ?_
        have F2 : RefFiles H2 fl gs s.files := F1.keep fun b hb hl => m2.same b hl id
        refine F2.ld1 hf hg (j := 0) (c := cStr) (y := f.name) rfl ?_
        refine SlE.push (E := EN) elText (x := f.name.toList) o2 (by unfold strB at hx; simp [EN, hx]) (by simp; omega) (by simp; omega) fun l3 H3 o3 g3 _ => ?_
        have z2 := m2.size; have z3 := g3.1.size
        have f3 : ∀ b, ownB l3 b → H1.size ≤ b := fun b hb => by
          rcases g3.2 b hb with q | q
          · exact f2 b q
          · omega
        have m13 : Mod (fun _ => False) H1 H3 := ⟨by omega, fun b hb _ => (g3.1.same b (by omega) fun hh => by have := f2 b hh; omega).trans (m2.same b hb id)⟩
        refine ⟨⟨by omega, by omega⟩, ?_⟩
        have o13 : SlE EN ty_string H3 l L := o1.ext m13
        have t3 : RdE EN H3 (slA l.a l.c a 1) (L.drop a) := RdE.drop o13.rd (by omega)
        simp only [Int.toNat_natCast]
        refine SlE.append (E := EN) elText (s := l3) (x := ⟨slA l.a l.c a 1, l.n - a, l.c - a⟩) o3 t3 (by simp; omega) (by simp; omega) (by simp; omega) fun l4 H4 o4 g4 _ => ?_
        have z4 := g4.1.size; have z1 := m1.size
        refine hnext hlt _ _ ⟨succ64 k (by omega), ⟨by omega, fun b hb _ => (g4.1.same b (by omega) fun hh => by have := f3 b hh; omega).trans ((m13.same b (by omega) id).trans (m1.same b hb id))⟩, ?_, (fun h => by rw [hd] at h; cases h), _, o4, ?_, ?_⟩
        · intro b hb
          rcases g4.2 b hb with q | q
          · have := f3 b q; omega
          · omega
        · simp only [List.nil_append]
          exact sorted_insert hs ha h1 h2
        · simp only [List.nil_append]
          rw [List.take_succ_eq_append_getElem hlt, ← hfe, List.map_append, List.map_cons, List.map_nil]
          refine List.Perm.trans ?_ (hp.append_right _)
          have e := List.take_append_drop a L
          conv => rhs; rw [← e]
          rw [List.append_assoc, List.append_assoc]
          exact List.Perm.append_left _ (List.perm_append_comm)
      refine loop_upto L.length (fun a x H2 => x = (a : Int) ∧ H2 = H1 ∧ ∀ j (hj : j < L.length), j < a → L[j] < f.name.toList) ⟨rfl, rfl, fun j _ h => by omega⟩ ?_
      rintro a _ H2 next1 ha ⟨rfl, rfl, hlo⟩ hnext1
      refine br_mk (fun hc1 => ?_) (fun hc1 => ?_)
      · have ha' : a < L.length := by rw [hln] at hc1; simpa using hc1
        refine text_ld o1 ha' ?_
        refine d1.ld (c := cSl) (i := 0) (x := fl) rfl ?_
        refine F1.ld1 hf hg (j := 0) (c := cStr) (y := f.name) rfl ?_
        rw [strB_list, bytesLess_eq]
        refine br_mk (fun hb => ?_) (fun hb => ?_)
        · have hb' : L[a] < f.name.toList := by simpa using hb
          refine hnext1 ha' _ _ ⟨succ64 a (by omega), rfl, fun j hj hja => ?_⟩
          rcases Nat.lt_or_ge j a with q | q
          · exact hlo j hj q
          · have : j = a := by omega
            subst this; exact hb'
        · have hb' : ¬ L[a] < f.name.toList := by simpa using hb
          refine ins a (by omega) hlo fun j hj haj => ?_
          refine List.le_trans (List.not_lt.1 hb') ?_
          rcases Nat.lt_or_ge a j with q | q
          · exact (List.pairwise_iff_getElem.1 hs) a j ha' hj q
          · have : a = j := by omega
            subst this; exact List.le_refl _
      · have hge : a = L.length := by rw [hln] at hc1; simp at hc1; omega
        exact ins a (by omega) hlo fun j hj haj => by omega
  · have hge : k = s.files.length := by rw [hn] at hc; simp at hc; omega
    rw [hge, List.take_of_length_le (Nat.le_refl _)] at hp
    cases hd : s.down with
    | true => exact downK hd
    | false => exact fin L l H1 hd o1 hs hp m1 f1

end Go.Proofs.YtjjfngnokbboeaaGreatDoor
