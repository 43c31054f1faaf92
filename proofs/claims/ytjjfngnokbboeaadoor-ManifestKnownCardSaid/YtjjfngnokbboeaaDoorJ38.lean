/-
  Manifests held against each other: the walk.
-/
import Derived.Test.YtjjfngnokbboeaaDoorJ36
import Derived.Test.YtjjfngnokbboeaaDoorFxo
namespace Go.Proofs.YtjjfngnokbboeaaDoor
open Go.MapKept

def svV (x : Sv) : Value := .agg #[(.string x.rel), (.string x.file), (.int .i64 x.rows)]
theorem sv_fields : ∃ f0 f1 f2 : Field, Tryd.prog.underlying ty_api_Saved = some (.struct #[f0, f1, f2]) ∧ (f0.type = ty_string ∧ f0.offset = 0) ∧ (f1.type = ty_string ∧ f1.offset = 1) ∧ (f2.type = ty_int ∧ f2.offset = 2) ∧ (#[f0, f1, f2] : Array Field).all (fun f => f.name != "_") = true := by
  have hb : (match Tryd.prog.underlying ty_api_Saved with | some (.struct fs) => (match fs.toList with | [f0, f1, f2] => (Nat.beq f0.type ty_string && Nat.beq f0.offset 0) && ((Nat.beq f1.type ty_string && Nat.beq f1.offset 1) && ((Nat.beq f2.type ty_int && Nat.beq f2.offset 2) && ((f0.name != "_") && ((f1.name != "_") && (f2.name != "_"))))) | _ => false) | _ => false) = true := by kernel_rfl
  split at hb
  · rename_i fs q
    split at hb
    · rename_i f0 f1 f2 q2
      have hfs : fs = #[f0, f1, f2] := Array.toList_inj.1 q2
      simp only [Bool.and_eq_true] at hb
      obtain ⟨⟨a1, a2⟩, ⟨a3, a4⟩, ⟨a5, a6⟩, a7, a8, a9⟩ := hb
      refine ⟨f0, f1, f2, by rw [q, hfs], ⟨Nat.eq_of_beq_eq_true a1, Nat.eq_of_beq_eq_true a2⟩, ⟨Nat.eq_of_beq_eq_true a3, Nat.eq_of_beq_eq_true a4⟩, ⟨Nat.eq_of_beq_eq_true a5, Nat.eq_of_beq_eq_true a6⟩, ?_⟩
      simp only [List.all_toArray, List.all_cons, List.all_nil, Bool.and_true, a7, a8, a9]
    · cases hb
  · cases hb
theorem sv_cells : Tryd.prog.cellsOf ty_api_Saved = 3 := Nat.eq_of_beq_eq_true (by kernel_rfl)
theorem str_cells : Tryd.prog.cellsOf ty_string = 1 := Nat.eq_of_beq_eq_true (by kernel_rfl)
theorem int_cells : Tryd.prog.cellsOf ty_int = 1 := Nat.eq_of_beq_eq_true (by kernel_rfl)
theorem str_und : Tryd.prog.underlying ty_string = some .string := by kernel_rfl
theorem int_und : Tryd.prog.underlying ty_int = some (.int .i64) := by kernel_rfl
theorem sv_key : Tryd.prog.keyTypeAt 2 ty_api_Saved = true := by kernel_rfl
theorem sv_guard : Tryd.prog.eqGuardType Tryd.prog.depth ty_api_Saved = false := by kernel_rfl
theorem sv_lits {x : Sv} (h : svOK x = true) : Tryd.prog.keyLits 2 ty_api_Saved (svV x).cells.toList = some [.string x.rel.data.toList, .string x.file.data.toList, .int .i64 x.rows] ∧ (svV x).formed Tryd.prog ty_api_Saved = true := by
  unfold svOK at h
  simp only [Bool.and_eq_true, decide_eq_true_eq] at h
  obtain ⟨f0, f1, f2, hu, ⟨a1, a2⟩, ⟨a3, a4⟩, ⟨a5, a6⟩, hall⟩ := sv_fields
  have hwf : (Lit.int .i64 x.rows).wf = true := by
    unfold Lit.wf
    simp only [Bool.and_eq_true, decide_eq_true_eq]
    exact ⟨by show (-9223372036854775808 : Int) ≤ x.rows; omega, by show x.rows ≤ (9223372036854775807 : Int); omega⟩
  have ls : ∀ s : ByteArray, s.size ≤ 1000000 → Tryd.prog.keyLits 1 ty_string [.string s] = some [.string s.data.toList] := fun s hs => by
    unfold Program.keyLits
    simp only [str_und]
    rw [if_pos (by unfold maxLen; omega)]
  have li : Tryd.prog.keyLits 1 ty_int [.int .i64 x.rows] = some [.int .i64 x.rows] := by
    unfold Program.keyLits
    simp only [int_und]
    rw [if_pos ⟨trivial, hwf⟩]
  have hc : (svV x).cells.toList = [.string x.rel, .string x.file, .int .i64 x.rows] := rfl
  refine ⟨?_, ?_⟩
  · unfold Program.keyLits
    simp only [hu]
    rw [hc, if_pos ⟨by rw [sv_cells]; rfl, hall⟩]
    simp [List.mapM_cons, a1, a2, a3, a4, a5, a6, str_cells, int_cells, ls _ (show x.rel.size ≤ 1000000 by omega), ls _ (show x.file.size ≤ 1000000 by omega), li]
  · unfold svV Value.formed
    simp only [hu, sv_cells]
    rfl
theorem neq_sv {x y : Sv} (hx : svOK x = true) (hy : svOK y = true) {i j : Nat} {H : Heap} {K : Bool → Prop} (hK : K (!(decide (x = y)))) :
    rdV cBool Tryd.prog (do eqGuard BinOp.neq ty_api_Saved (Operand.tmp i) (Operand.tmp j) (svV x) (svV y); binOp BinOp.neq ty_api_Saved (svV x) (svV y)) H K := by
  refine ⟨!(decide (x = y)), fun w hw => ?_, hK⟩
  obtain ⟨kx, fx⟩ := sv_lits hx
  obtain ⟨ky, fy⟩ := sv_lits hy
  obtain ⟨d, hd⟩ : ∃ d, Op.maxDepth = d + 2 := ⟨Op.maxDepth - 2, rfl⟩
  obtain ⟨r, hr, hiff⟩ := run_equalIn_deep d 2 ty_api_Saved sv_key w 2 2 (svV x) (svV y) _ _ fx fy kx ky
  have hrd : r = decide (x = y) := by
    have : (r = true) ↔ x = y := by
      rw [hiff]
      constructor
      · intro h
        simp only [List.cons.injEq, Lit.string.injEq, Lit.int.injEq, and_true, true_and] at h
        obtain ⟨h1, h2, h3⟩ := h
        have ba : ∀ {a b : ByteArray}, a.data.toList = b.data.toList → a = b := fun h => ByteArray.ext (Array.toList_inj.1 h)
        cases x; cases y
        simp only at h1 h2 h3
        rw [ba h1, ba h2, h3]
      · rintro rfl; rfl
    cases r with
    | true => exact (decide_eq_true (this.1 rfl)).symm
    | false => exact (decide_eq_false fun q => by have := this.2 q; cases this).symm
  have e1 : (eqGuard BinOp.neq ty_api_Saved (Operand.tmp i) (Operand.tmp j) (svV x) (svV y)).run Tryd.prog w = .ok () w := by
    unfold eqGuard svV
    simp [sv_guard]
  have e2 : (binOp BinOp.neq ty_api_Saved (svV x) (svV y)).run Tryd.prog w = .ok (.bool (!r)) w := by
    have : binOp BinOp.neq ty_api_Saved (svV x) (svV y) = (do pure (.bool (!(← Op.equal ty_api_Saved (svV x) (svV y))))) := rfl
    rw [this]
    unfold Op.equal
    rw [hd]
    simp only [Sem.run_bind, hr, Result.andThen_ok, Sem.run_pure]
  simp only [Sem.run_bind, e1, Result.andThen_ok, e2, hrd]

theorem ba_same (s t : ByteArray) : (s.toList == t.toList) = decide (s = t) := by
  rw [ByteArray.toList_eq, ByteArray.toList_eq]
  by_cases h : s = t
  · subst h; simp
  · have : ¬ s.data = t.data := fun q => h (ByteArray.ext q)
    simp [h, this]
set_option maxRecDepth 100000 in
theorem SameM_ok {a b : Mf} {ra rb : Sl} {H : Heap} {K : Bool → Heap → Prop} (ha : Rels H ra a.rels) (hb : Rels H rb b.rels) (la : a.rels.length ≤ 1000) (hoa : ∀ x ∈ a.rels, svOK x = true) (hob : ∀ x ∈ b.rels, svOK x = true)
    (hK : ∀ H', Ext H H' → K (decide (a = b)) H') : fathomkit_SameManifest.sp a.opts a.next a.input a.terms ra b.opts b.next b.input b.terms rb H K := by
  refine fathomkit_SameManifest.of ?_
  unfold fathomkit_SameManifest.vc
  have na := ha.n
  have nb := hb.n
  refine newC_rowT fun H1 z1 r1 e1 => ?_
  refine newC_rowT fun H2 z2 r2 e2 => ?_
  have r1 := r1.ext e2
  have e12 := e1.trans e2
  have no : ¬ a = b → K false H2 := fun h => by have := hK H2 e12; rwa [decide_eq_false h] at this
  refine r1.ld (c := cInt .u8) (i := 0) (x := a.opts) rfl ?_
  refine r2.ld (c := cInt .u8) (i := 0) (x := b.opts) rfl ?_
  refine br_mk (fun q => no fun h => by rw [h] at q; simp at q) (fun q0 => ?_)
  refine r1.ld (c := cInt .i64) (i := 1) (x := a.next) rfl ?_
  refine r2.ld (c := cInt .i64) (i := 1) (x := b.next) rfl ?_
  refine br_mk (fun q => no fun h => by rw [h] at q; simp at q) (fun q1 => ?_)
  refine r1.ld (c := cStr) (i := 2) (x := a.input) rfl ?_
  refine r2.ld (c := cStr) (i := 2) (x := b.input) rfl ?_
  rw [ba_same]
  refine br_mk (fun q => no fun h => by rw [h] at q; simp at q) (fun q2 => ?_)
  refine r1.ld (c := cStr) (i := 3) (x := a.terms) rfl ?_
  refine r2.ld (c := cStr) (i := 3) (x := b.terms) rfl ?_
  rw [ba_same]
  refine br_mk (fun q => no fun h => by rw [h] at q; simp at q) (fun q3 => ?_)
  refine r1.ld (c := cSl) (i := 4) (x := ra) rfl ?_
  refine r2.ld (c := cSl) (i := 4) (x := rb) rfl ?_
  refine br_mk (fun q => no fun h => by rw [na, nb, h] at q; simp at q) (fun q4 => ?_)
  have hlen : a.rels.length = b.rels.length := by
    rw [na, nb] at q4
    have : (a.rels.length : Int) = (b.rels.length : Int) := by simpa using q4
    omega
  refine loop_upto a.rels.length (fun i z A => z = (i : Int) ∧ A = H2 ∧ a.rels.take i = b.rels.take i) ⟨rfl, rfl, by simp⟩ ?_
  rintro i _ A next hi ⟨rfl, rfl, ht⟩ hnext
  refine r1.ld (c := cSl) (i := 4) (x := ra) rfl ?_
  refine br_mk (fun q => ?_) (fun q => ?_)
  · have hlt : i < a.rels.length := by have : (i : Int) < (ra.n : Int) := by simpa using q
                                       omega
    have hx : a.rels[i]? = some a.rels[i] := List.getElem?_eq_getElem hlt
    have hlt2 : i < b.rels.length := by omega
    have hy : b.rels[i]? = some b.rels[i] := List.getElem?_eq_getElem hlt2
    have rda := (ha.ext e12).rd
    have rdb := (hb.ext e12).rd
    obtain ⟨ada, hada⟩ := rda.addr (by decide) (by omega)
    obtain ⟨adb, hadb⟩ := rdb.addr (by decide) (by omega)
    refine r1.ld (c := cSl) (i := 4) (x := ra) rfl ?_
    refine optK_mk ada hada ⟨⟨by omega, by omega⟩, ?_⟩
    refine RdE.ldA (c := cAgg [cStr, cStr, cInt .i64]) (y := (a.rels[i].rel, a.rels[i].file, a.rels[i].rows)) rda hada hx rfl (n := (i : Int).toNat * 3) (by rw [Int.toNat_natCast]; rfl) rfl ?_
    refine r2.ld (c := cSl) (i := 4) (x := rb) rfl ?_
    refine optK_mk adb hadb ⟨⟨by omega, by omega⟩, ?_⟩
    refine RdE.ldA (c := cAgg [cStr, cStr, cInt .i64]) (y := (b.rels[i].rel, b.rels[i].file, b.rels[i].rows)) rdb hadb hy rfl (n := (i : Int).toNat * 3) (by rw [Int.toNat_natCast]; rfl) rfl ?_
    refine neq_sv (x := a.rels[i]) (y := b.rels[i]) (hoa _ (List.getElem_mem hlt)) (hob _ (List.getElem_mem hlt2)) ?_
    refine br_mk (fun p => ?_) (fun p => ?_)
    · have p : ¬ a.rels[i] = b.rels[i] := by simpa using p
      refine no fun h => p ?_
      subst h; rfl
    · have p : a.rels[i] = b.rels[i] := by simpa using p
      exact hnext hlt _ _ ⟨succ64 i (by omega), rfl, by rw [List.take_add_one, List.take_add_one, hx, hy, ht, p]⟩
  · have hge : i = a.rels.length := by have : ¬ (i : Int) < (ra.n : Int) := by simpa using q
                                       omega
    subst hge
    have hr : a.rels = b.rels := by
      have h2 := ht
      rw [List.take_length, hlen, List.take_length] at h2
      exact h2
    have hab : a = b := by
      have h0 : a.opts = b.opts := by simpa using q0
      have h1 : a.next = b.next := by simpa using q1
      have h2 : a.input = b.input := by simpa using q2
      have h3 : a.terms = b.terms := by simpa using q3
      cases a; cases b
      simp only at h0 h1 h2 h3 hr
      rw [h0, h1, h2, h3, hr]
    have := hK A e12
    rwa [decide_eq_true hab] at this
end Go.Proofs.YtjjfngnokbboeaaDoor
