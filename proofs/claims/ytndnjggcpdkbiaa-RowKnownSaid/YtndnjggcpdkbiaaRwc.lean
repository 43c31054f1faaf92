/-
  Rows: columns taken out, lists of rows, bytes of rows.
-/
import Derived.Test.YtndnjggcpdkbiaaRwb
namespace Go.Proofs.Ytndnjggcpdkbiaa

/-! ### Aggregates in variables -/

/-- A variable of several cells. -/
def RowV (H : Heap) (p : Addr) (cs : Array Value) : Prop := p.spot = none ∧ p.off = 0 ∧ ∃ t, H[p.block]? = some (.cells cs t (0, 0))

theorem RowV.cell {H : Heap} {p : Addr} {cs : Array Value} (h : RowV H p cs) {i : Nat} (hi : i < cs.size) : hCell H (p.add i) = some cs[i] := by
  obtain ⟨b, o, sp⟩ := p
  obtain ⟨h1, h2, t, h3⟩ := h
  simp only at h1 h2 h3
  subst h1; subst h2
  rw [add_lit, Nat.zero_add]
  exact hCell_of h3 (Array.getElem?_eq_getElem hi)
theorem RowV.lt {H : Heap} {p : Addr} {cs : Array Value} (h : RowV H p cs) : p.block < H.size := by
  obtain ⟨_, _, t, h3⟩ := h
  rcases Nat.lt_or_ge p.block H.size with h1 | h1
  · exact h1
  · rw [Array.getElem?_eq_none h1] at h3; cases h3
theorem RowV.mod {F : Nat → Prop} {H H' : Heap} {p : Addr} {cs : Array Value} (h : RowV H p cs) (hm : Mod F H H') (hn : ¬ F p.block) : RowV H' p cs := by
  have hl := h.lt
  obtain ⟨h1, h2, t, h3⟩ := h
  exact ⟨h1, h2, t, (hm.same _ hl hn).trans h3⟩
theorem RowV.ldA {H : Heap} {p : Addr} {cs : Array Value} (h : RowV H p cs) {n : Nat} (hn : cs.size = n) {K : Array Value → Prop} (hK : K cs) : ldA cArr n H p K :=
  ⟨cs, ⟨cs, rfl, hn, fun i hi => by rw [h.cell (by omega), Array.getElem?_eq_getElem (by omega)]⟩, hK⟩
theorem RowV.st {H : Heap} {p : Addr} {cs : Array Value} {v : Value} {K : Heap → Prop} (h : RowV H p cs) {i : Nat} (hi : i < cs.size) (hp : plainV v = true)
    (hK : ∀ H', RowV H' p (cs.setIfInBounds i v) → Mod (fun b => b = p.block) H H' → H'.size = H.size → K H') : st H (p.add i) v K := by
  have hc := h.cell hi
  obtain ⟨b, o, sp⟩ := p
  obtain ⟨h1, h2, t, h3⟩ := h
  simp only at h1 h2 h3
  subst h1; subst h2
  refine ⟨hp, ⟨_, hc⟩, ?_, hK _ ⟨rfl, rfl, t, ?_⟩ (Mod.set (add_block _ _)) (hSet_size _ _ _)⟩
  · rw [add_lit]; exact hFrozen_of h3
  · rw [add_lit, Nat.zero_add]; exact hSet_at (a := ⟨b, i, none⟩) h3 rfl
theorem newC_row {H : Heap} {cs : Array Value} {t : TypeId} {K : Addr → Heap → Prop} (hK : ∀ p H', p.block = H.size → H'.size = H.size + 1 → RowV H' p cs → Ext H H' → K p H') : newC H cs t K :=
  hK _ _ rfl (by simp) ⟨rfl, rfl, t, by simp⟩ (Mod.push _ _ _)

def sizeB (P : Program) (ty : TypeId) (n : Nat) : Bool := match P.info? ty with | some i => Nat.beq i.size n | none => false

theorem RowV.stAll {P : Program} {ty : TypeId} {H : Heap} {p : Addr} {old cs : Array Value} {K : Heap → Prop} (h : RowV H p old) (hi : sizeB P ty cs.size = true) (ho : old.size = cs.size) (h1 : cs.all (·.oneCell') = true)
    (hK : ∀ H', RowV H' p cs → Mod (fun b => b = p.block) H H' → H'.size = H.size → K H') : doU P (Instr.storeAt ty (.pointer (some p)) (.agg cs)) H K := by
  intro w hw
  subst hw
  obtain ⟨b, o, sp⟩ := p
  obtain ⟨q1, q2, t, h3⟩ := h
  simp only at q1 q2 h3
  subst q1; subst q2
  have hi' : (P.info? ty).map (·.size) = some cs.size := by
    unfold sizeB at hi
    split at hi
    · rename_i i he; rw [he]; simp [Nat.eq_of_beq_eq_true hi]
    · cases hi
  have hr := run_storeVar_row (P := P) w b t ty old cs h3 hi' ho h1
  refine ⟨(), w.setRow b cs, ?_, hK _ ⟨rfl, rfl, t, setRow_heap w b old cs t _ h3⟩ ⟨by simp, fun k _ hk => setRow_other w b k cs hk⟩ (by simp), ⟨rfl, rfl⟩⟩
  simp only [Instr.storeAt, Instr.sureAddr, Sem.run_bind, Sem.run_pure, Result.andThen_ok, hr]

/-! ### Columns -/

def turnOK (l cols : List Int) : Bool := cols.all fun c => decide (0 ≤ c) && decide (c < (l.length : Int))
def turnL (l cols : List Int) : List Int := if turnOK l cols then cols.map fun c => l.getD c.toNat 0 else []
def turnE (l cols : List Int) : Int := if turnOK l cols then 0 else 2

theorem turnOK_at {l cols : List Int} {k : Nat} (hk : k < cols.length) (hb : ¬ (0 ≤ cols.getD k 0 ∧ cols.getD k 0 < (l.length : Int))) : turnOK l cols = false := by
  unfold turnOK
  rw [List.all_eq_false]
  refine ⟨cols[k], List.getElem_mem _, ?_⟩
  simp [List.getD, List.getElem?_eq_getElem hk] at hb
  simpa using hb

theorem turnOK_take {l cols : List Int} {k : Nat} (hk : k < cols.length) (h : turnOK l (cols.take k) = true) (h1 : 0 ≤ cols.getD k 0) (h2 : cols.getD k 0 < (l.length : Int)) : turnOK l (cols.take (k + 1)) = true := by
  unfold turnOK at h ⊢
  rw [List.take_succ_eq_append_getElem hk, List.all_append, h]
  simp [List.getD, List.getElem?_eq_getElem hk] at h1 h2
  simp [h1, h2]

theorem take_map_succ {cols : List Int} {k : Nat} (f : Int → Value) (hk : k < cols.length) : (cols.take (k + 1)).map f = (cols.take k).map f ++ [f (cols.getD k 0)] := by
  rw [List.take_succ_eq_append_getElem hk, List.map_append]
  simp only [List.map_cons, List.map_nil, List.getD, List.getElem?_eq_getElem hk, Option.getD_some]

theorem rowTurn_ok {l cols : Sl} {ll lc : List Int} {H : Heap} {K : (Sl × Int) → Heap → Prop} (hl : Ints .u64 H l ll) (hc : Ints .i64 H cols lc) (hlen : lc.length ≤ 1000000)
    (hK : ∀ s H', Owns H' H.size ty_uint64 1 s ((turnL ll lc).map (Value.int .u64)) → Ext H H' → K (s, turnE ll lc) H') : row_Turn.sp l cols H K := by
  refine row_Turn.of ?_
  unfold row_Turn.vc
  have ln := hl.len
  have cn := hc.len
  refine elU64.make (base := H.size) (by omega) (by omega) (by omega) (by omega) (Nat.le_refl _) ?_
  intro out H1 n1 o1 e1 b1 _
  refine loop_upto lc.length (fun k z H' => z.2 = (k : Int) ∧ z.1.n = k ∧ turnOK ll (lc.take k) = true ∧ Owns H' H.size ty_uint64 1 z.1 ((lc.take k).map fun c => Value.int .u64 (ll.getD c.toNat 0)) ∧ Ext H H') ⟨rfl, by simpa using n1, by simp [turnOK], by simpa using o1, e1⟩ ?_
  rintro k ⟨s, i⟩ H2 next hk ⟨hi, hn, hok, o2, e2⟩ hnext
  simp only at hi hn o2 ⊢
  subst hi
  refine br_mk (fun h => ?_) (fun h => ?_)
  · have hlt : k < lc.length := by simp at h; omega
    refine (hc.ext e2).ld (by omega) (by omega) fun ad1 q1 => ?_
    simp only [Int.toNat_natCast]
    refine br_mk (fun h2 => ?_) (fun h2 => ?_)
    · have h2' : ¬ (0 ≤ lc.getD k 0 ∧ lc.getD k 0 < (ll.length : Int)) := by simp at h2 ⊢; omega
      have hf := turnOK_at hlt h2'
      have := hK (Sl.mk none 0 0) H2 (by unfold turnL; rw [hf]; exact Owns.nil _ _ _ _) e2
      unfold turnE at this
      rw [hf] at this
      exact this
    · have h2' : 0 ≤ lc.getD k 0 ∧ lc.getD k 0 < (ll.length : Int) := by simp at h2 ⊢; omega
      refine (hl.ext e2).ld h2'.1 h2'.2 fun ad2 q2 => ?_
      refine elU64.push (base := H.size) o2 rfl (by omega) (by omega) e2.size ?_
      intro s' H3 n3 o3 m3 b3 _
      refine hnext hlt _ _ ⟨by rw [succ64 k (by omega)], by simp only; omega, turnOK_take hlt hok h2'.1 h2'.2, ?_, (e2.mod (F := ownB s).trans m3).ext (fun b hb => (o2.block b hb).1)⟩
      simp only
      rw [take_map_succ (fun c => Value.int .u64 (ll.getD c.toNat 0)) hlt]; exact o3
  · have hge : k = lc.length := by simp at h; omega
    subst hge
    rw [List.take_of_length_le (Nat.le_refl _)] at hok o2
    have := hK s H2 (by unfold turnL; rw [hok, if_pos rfl, List.map_map]; exact o2) e2
    unfold turnE at this
    rw [hok] at this
    exact this

theorem refTurn_ok {l cols : Sl} {ll lc : List Int} {H : Heap} {K : (Sl × Int) → Heap → Prop} (hl : Ints .u64 H l ll) (hc : Ints .i64 H cols lc) (hlen : lc.length ≤ 1000000)
    (hK : ∀ s H', Owns H' H.size ty_uint64 1 s ((turnL ll lc).map (Value.int .u64)) → Ext H H' → K (s, turnE ll lc) H') : fathomref06_Turn.sp l cols H K := by
  refine fathomref06_Turn.of ?_
  unfold fathomref06_Turn.vc
  have ln := hl.len
  have cn := hc.len
  refine loop_upto lc.length (fun k z H' => z.2 = (k : Int) ∧ z.1.n = k ∧ turnOK ll (lc.take k) = true ∧ Owns H' H.size ty_uint64 1 z.1 ((lc.take k).map fun c => Value.int .u64 (ll.getD c.toNat 0)) ∧ Ext H H') ⟨rfl, rfl, by simp [turnOK], Owns.nil _ _ _ _, Mod.refl _ _⟩ ?_
  rintro k ⟨s, i⟩ H2 next hk ⟨hi, hn, hok, o2, e2⟩ hnext
  simp only at hi hn o2 ⊢
  subst hi
  have bad : k < lc.length → ¬ (0 ≤ lc.getD k 0 ∧ lc.getD k 0 < (ll.length : Int)) → K (Sl.mk none 0 0, 2) H2 := by
    intro hlt h2'
    have hf := turnOK_at hlt h2'
    have := hK (Sl.mk none 0 0) H2 (by unfold turnL; rw [hf]; exact Owns.nil _ _ _ _) e2
    unfold turnE at this
    rw [hf] at this
    exact this
  refine br_mk (fun h => ?_) (fun h => ?_)
  · have hlt : k < lc.length := by simp at h; omega
    refine (hc.ext e2).ld (by omega) (by omega) fun ad1 q1 => ?_
    simp only [Int.toNat_natCast]
    refine br_mk (fun h2 => bad hlt (by simp at h2 ⊢; omega)) (fun h2 => ?_)
    refine (hc.ext e2).ld (by omega) (by omega) fun ad1 q1 => ?_
    simp only [Int.toNat_natCast]
    refine br_mk (fun h3 => bad hlt (by simp at h3 ⊢; omega)) (fun h3 => ?_)
    refine (hc.ext e2).ld (by omega) (by omega) fun ad1 q1 => ?_
    simp only [Int.toNat_natCast]
    have h2' : 0 ≤ lc.getD k 0 ∧ lc.getD k 0 < (ll.length : Int) := by simp at h2 h3 ⊢; omega
    refine (hl.ext e2).ld h2'.1 h2'.2 fun ad2 q2 => ?_
    refine elU64.push (base := H.size) o2 rfl (by omega) (by omega) e2.size ?_
    intro s' H3 n3 o3 m3 b3 _
    refine hnext hlt _ _ ⟨by rw [succ64 k (by omega)], by simp only; omega, turnOK_take hlt hok h2'.1 h2'.2, ?_, (e2.mod (F := ownB s).trans m3).ext (fun b hb => (o2.block b hb).1)⟩
    simp only
    rw [take_map_succ (fun c => Value.int .u64 (ll.getD c.toNat 0)) hlt]; exact o3
  · have hge : k = lc.length := by simp at h; omega
    subst hge
    rw [List.take_of_length_le (Nat.le_refl _)] at hok o2
    have := hK s H2 (by unfold turnL; rw [hok, if_pos rfl, List.map_map]; exact o2) e2
    unfold turnE at this
    rw [hok] at this
    exact this

/-! ### Lists of rows -/

structure Rows (H : Heap) (s : Sl) (ls : List (List Int)) : Prop where
  len : s.n = ls.length
  at' : ∀ i (h : i < ls.length), ∃ ad r, s.a = some ad ∧ hCell H (ad.add i) = some (Sl.v r) ∧ Ints .u64 H r ls[i]

theorem Rows.ld {H : Heap} {s : Sl} {ls : List (List Int)} (h : Rows H s ls) {i : Nat} (hi : i < ls.length) {K : Addr → Sl → Prop} (hK : ∀ ad r, s.a = some ad → Ints .u64 H r (ls[i]'hi) → K ad r) :
    optK s.a fun a => (0 ≤ (i : Int) ∧ (i : Int) < (s.n : Int)) ∧ ld cSl H (a.add ((i : Int).toNat * 1)) fun x => K a x := by
  obtain ⟨ad, r, e, hc, hr⟩ := h.at' i hi
  refine optK_mk ad e ⟨⟨by omega, by rw [h.len]; omega⟩, r, ?_, hK ad r e hr⟩
  simp only [Int.toNat_natCast, Nat.mul_one]
  exact hc

theorem SameRows_ok {a b : Sl} {la lb : List (List Int)} {H : Heap} {K : Bool → Heap → Prop} (ha : Rows H a la) (hb : Rows H b lb) (hlen : la.length < 1099511627776) (hl : ∀ l ∈ la, l.length < 1099511627776) (hK : K (decide (la = lb)) H) : fathomkit_SameRows.sp a b H K := by
  refine fathomkit_SameRows.of ?_
  unfold fathomkit_SameRows.vc
  have la1 := ha.len
  have lb1 := hb.len
  refine br_mk (fun h => ?_) (fun h => ?_)
  · have h1 : la ≠ lb := by intro e; subst e; simp [la1, lb1] at h
    simpa [h1] using hK
  · have h' : (a.n : Int) = (b.n : Int) := by simpa using h
    have hll : la.length = lb.length := by omega
    refine loop_upto la.length (fun k i H' => i = (k : Int) ∧ H' = H ∧ la.take k = lb.take k) ⟨rfl, rfl, by simp⟩ ?_
    rintro k i H' next hk ⟨rfl, rfl, ht⟩ hnext
    refine br_mk (fun h1 => ?_) (fun h1 => ?_)
    · have hlt : k < la.length := by simp at h1; omega
      refine ha.ld hlt fun ad1 r1 e1 hr1 => ?_
      refine hb.ld (by omega) fun ad2 r2 e2 hr2 => ?_
      refine SameRow_ok hr1 hr2 (hl _ (List.getElem_mem _)) ?_
      refine br_mk (fun h2 => ?_) (fun h2 => ?_)
      · have h3 : la ≠ lb := by intro e; subst e; simp at h2
        simpa [h3] using hK
      · refine hnext hlt _ _ ⟨by rw [succ64 k (by omega)], rfl, ?_⟩
        have h2' : la[k]'hlt = lb[k]'(by omega) := by simpa using h2
        rw [List.take_succ_eq_append_getElem hlt, List.take_succ_eq_append_getElem (by omega : k < lb.length), ht, h2']
    · have hge : k = la.length := by simp at h1; omega
      subst hge
      have h2 : la = lb := by rw [List.take_of_length_le (Nat.le_refl _), List.take_of_length_le (by omega)] at ht; exact ht
      simpa [h2] using hK

/-! ### A row's bytes -/

def byteL (n : Int) (k : Nat) : Int := IntKind.u8.wrap (ishr .u64 n (56 - 8 * (k : Int)))
def wordL (n : Int) : List Int := (List.range 8).map (byteL n)
def putL (l : List Int) : List Int := if l = [] then [0] else l.flatMap wordL
theorem wordL_length (n : Int) : (wordL n).length = 8 := by simp [wordL]
theorem flat_length : ∀ (l : List Int), (l.flatMap wordL).length = 8 * l.length
  | [] => rfl
  | x :: r => by rw [List.flatMap_cons, List.length_append, wordL_length, flat_length r]; simp; omega
theorem wordL_take_succ (n : Int) {k : Nat} (hk : k < 8) : (wordL n).take (k + 1) = (wordL n).take k ++ [byteL n k] := by
  rw [List.take_succ_eq_append_getElem (by rw [wordL_length]; exact hk)]
  simp [wordL]
theorem flat_take_succ {l : List Int} {k : Nat} (hk : k < l.length) : (l.take (k + 1)).flatMap wordL = (l.take k).flatMap wordL ++ wordL (l.getD k 0) := by
  rw [List.take_succ_eq_append_getElem hk, List.flatMap_append]
  simp only [List.flatMap_cons, List.flatMap_nil, List.append_nil, List.getD, List.getElem?_eq_getElem hk, Option.getD_some]

theorem zc_word : zc Try.prog ty_row_word = Array.replicate 8 (.int .u8 0) := by kernel_rfl
theorem size_word : sizeB Try.prog ty_row_word 8 = true := by kernel_rfl

theorem wordOf_ok {n : Int} {H : Heap} {K : Array Value → Heap → Prop} (hK : ∀ H', Ext H H' → K ((wordL n).map (Value.int .u8)).toArray H') : row_word_of.sp (zc Try.prog ty_row_word) n H K := by
  refine row_word_of.of ?_
  unfold row_word_of.vc
  rw [zc_word]
  refine newC_row fun p H1 hp s1 r1 e1 => ?_
  refine newC_row fun q H2 hq s2 r2 e2 => ?_
  have hpq : p.block ≠ q.block := by omega
  refine loop_upto 8 (fun k z H' => z = (k : Int) ∧ (∃ cs : List Value, cs.length = 8 ∧ cs.take k = ((wordL n).take k).map (Value.int .u8) ∧ RowV H' p cs.toArray) ∧ RowV H' q (Array.replicate 8 (.int .u8 0)) ∧ Ext H H') ⟨rfl, ⟨List.replicate 8 (.int .u8 0), by simp, by simp, r1.mod e2 id⟩, r2, e1.trans e2⟩ ?_
  rintro k z H3 next hk ⟨rfl, ⟨cs, hl, ht, r3⟩, q3, e3⟩ hnext
  refine br_mk (fun h => ?_) (fun h => ?_)
  · have hlt : k < 8 := by simp at h; omega
    rw [wrap64 (x := 8 * (k : Int)) (by omega) (by omega), wrap64 (by omega) (by omega)]
    refine ⟨by omega, by omega, ?_⟩
    simp only [Int.toNat_natCast, Nat.mul_one]
    refine r3.st (by simp; omega) rfl fun H4 r4 m4 _ => ?_
    refine hnext hlt _ _ ⟨by rw [succ64 k (by omega)], ⟨cs.set k (.int .u8 (byteL n k)), by simpa using hl, ?_, by rw [← List.setIfInBounds_toArray]; exact r4⟩, q3.mod m4 (fun hh => hpq hh.symm), ?_⟩
    · rw [wordL_take_succ n hlt, List.map_append, ← ht, List.take_succ_eq_append_getElem (by simpa [hl] using hlt)]
      simp [List.take_set]
      rw [List.set_eq_of_length_le (by simp; omega)]
    · exact ⟨Nat.le_trans e3.size m4.size, fun b hb _ => (m4.same b (Nat.lt_of_lt_of_le hb e3.size) (by omega)).trans (e3.same b hb id)⟩
  · have hge : k = 8 := by simp at h; omega
    subst hge
    rw [List.take_of_length_le (by omega), List.take_of_length_le (by rw [wordL_length]; omega)] at ht
    subst ht
    refine r3.ldA (by simp [wordL_length]) ?_
    refine q3.stAll (by simpa [wordL_length] using size_word) (by simp [wordL_length]) (by simp [Value.oneCell']) fun H5 r5 m5 _ => ?_
    refine r5.ldA (by simp [wordL_length]) ?_
    exact hK _ ⟨Nat.le_trans e3.size m5.size, fun b hb _ => (m5.same b (Nat.lt_of_lt_of_le hb e3.size) (by omega)).trans (e3.same b hb id)⟩

theorem RowV.reads {H : Heap} {p : Addr} {cs : Array Value} (h : RowV H p cs) : Reads H (some p) cs.toList := by
  intro i v hv
  refine ⟨p, rfl, ?_⟩
  have hlt : i < cs.size := by have := (List.getElem?_eq_some_iff.1 hv).1; simpa using this
  rw [h.cell hlt]
  rw [← hv]; simp [hlt]

theorem one_u8 {H : Heap} : Owns (H.push (.cells #[.int .u8 0] ty_uint8)) H.size ty_uint8 1 ⟨some ⟨H.size, 0, none⟩, 1, 1⟩ ([(0 : Int)].map (Value.int .u8)) :=
  Owns.fresh (Nat.le_refl _) (Nat.le_refl _) (by unfold maxLen; omega) rfl rfl rfl

theorem rowPut_ok {l : Sl} {ll : List Int} {H : Heap} {K : Sl → Heap → Prop} (hl : Ints .u64 H l ll) (hlen : ll.length ≤ 1000000)
    (hK : ∀ s H', Owns H' H.size ty_uint8 1 s ((putL ll).map (Value.int .u8)) → Ext H H' → K s H') : row_Put.sp l H K := by
  refine row_Put.of ?_
  unfold row_Put.vc
  have ln := hl.len
  refine br_mk (fun h => ?_) (fun h => ?_)
  · have h' : ll = [] := List.eq_nil_of_length_eq_zero (by simp at h; omega)
    refine hK _ _ ?_ (Mod.push _ _ _)
    unfold putL
    rw [if_pos h']
    exact one_u8
  · have h' : ll ≠ [] := by intro e; subst e; simp at ln; simp [ln] at h
    unfold putL at hK
    rw [if_neg h'] at hK
    rw [wrap64 (by omega) (by omega)]
    refine elU8.make (base := H.size) (by omega) (by omega) (by omega) (by omega) (Nat.le_refl _) ?_
    intro out H1 n1 o1 e1 b1 _
    refine loop_upto ll.length (fun k z H' => z.2 = (k : Int) ∧ z.1.n = 8 * k ∧ Owns H' H.size ty_uint8 1 z.1 (((ll.take k).flatMap wordL).map (Value.int .u8)) ∧ Ext H H') ⟨rfl, by simpa using n1, by simpa using o1, e1⟩ ?_
    rintro k ⟨s, i⟩ H2 next hk ⟨hi, hn, o2, e2⟩ hnext
    simp only at hi hn o2 ⊢
    subst hi
    refine br_mk (fun h => ?_) (fun h => ?_)
    · have hlt : k < ll.length := by simp at h; omega
      refine (hl.ext e2).ld (by omega) (by omega) fun ad1 q1 => ?_
      simp only [Int.toNat_natCast]
      refine wordOf_ok fun H3 e3 => ?_
      rw [zc_word]
      refine newC_row fun p H4 hp s4 r4 e4 => ?_
      refine r4.stAll (by simpa [wordL_length] using size_word) (by simp [wordL_length]) (by simp [Value.oneCell']) fun H5 r5 m5 s5 => ?_
      have e34 : Ext H2 H4 := e3.trans e4
      have e25 : Ext H2 H5 := (e34.mod (F := fun b => b = p.block).trans m5).ext (fun b hb => by have := e3.size; omega)
      rw [slA_zero]
      refine elU8.append (base := H.size) (s := s) (x := ⟨some p, 8 - 0, 8 - 0⟩) (ws := (wordL (ll.getD k 0)).map (Value.int .u8)) (o2.ext e25) (by simp [wordL_length]) (by simpa using r5.reads) (intsOne _ _) (by simp only; omega) (by simp only; omega) (e2.trans e25).size ?_
      intro s' H6 n6 o6 m6 b6 _
      refine hnext hlt _ _ ⟨by rw [succ64 k (by omega)], by simp only at n6 ⊢; omega, ?_, ((Ext.mod (F := ownB s) (e2.trans e25)).trans m6).ext (fun b hb => (o2.block b hb).1)⟩
      simp only
      rw [flat_take_succ hlt, List.map_append]; exact o6
    · have hge : k = ll.length := by simp at h; omega
      subst hge
      rw [List.take_of_length_le (Nat.le_refl _)] at o2
      exact hK s H2 o2 e2

theorem refPut_ok {l : Sl} {ll : List Int} {H : Heap} {K : Sl → Heap → Prop} (hl : Ints .u64 H l ll) (hlen : ll.length ≤ 1000000)
    (hK : ∀ s H', Owns H' H.size ty_uint8 1 s ((putL ll).map (Value.int .u8)) → Ext H H' → K s H') : fathomref06_Put.sp l H K := by
  refine fathomref06_Put.of ?_
  unfold fathomref06_Put.vc
  have ln := hl.len
  refine br_mk (fun h => ?_) (fun h => ?_)
  · have h' : ll = [] := List.eq_nil_of_length_eq_zero (by simp at h; omega)
    refine hK _ _ ?_ (Mod.push _ _ _)
    unfold putL
    rw [if_pos h']
    exact one_u8
  · have h' : ll ≠ [] := by intro e; subst e; simp at ln; simp [ln] at h
    unfold putL at hK
    rw [if_neg h'] at hK
    refine loop_upto ll.length (fun k z H' => z.2 = (k : Int) ∧ z.1.n = 8 * k ∧ Owns H' H.size ty_uint8 1 z.1 (((ll.take k).flatMap wordL).map (Value.int .u8)) ∧ Ext H H') ⟨rfl, rfl, Owns.nil _ _ _ _, Mod.refl _ _⟩ ?_
    rintro k ⟨s, i⟩ H2 next hk ⟨hi, hn, o2, e2⟩ hnext
    simp only at hi hn o2 ⊢
    subst hi
    refine br_mk (fun h => ?_) (fun h => ?_)
    · have hlt : k < ll.length := by simp at h; omega
      refine loop_upto 8 (fun j z H' => z.2 = 56 - 8 * (j : Int) ∧ z.1.n = 8 * k + j ∧ Owns H' H.size ty_uint8 1 z.1 (((ll.take k).flatMap wordL ++ (wordL (ll.getD k 0)).take j).map (Value.int .u8)) ∧ Ext H H') ⟨rfl, hn, by simpa using o2, e2⟩ ?_
      rintro j ⟨s2, i2⟩ H3 next3 hj ⟨hi2, hn2, o3, e3⟩ hnext3
      simp only at hi2 hn2 o3 ⊢
      subst hi2
      refine br_mk (fun h => ?_) (fun h => ?_)
      · have hlt2 : j < 8 := by simp at h; omega
        refine (hl.ext e3).ld (by omega) (by omega) fun ad1 q1 => ?_
        simp only [Int.toNat_natCast]
        refine ⟨by omega, ?_⟩
        refine elU8.push (base := H.size) o3 rfl (by omega) (by omega) e3.size ?_
        intro s' H4 n4 o4 m4 b4 _
        refine hnext3 hlt2 _ _ ⟨by simp only; rw [wrap64 (by omega) (by omega)]; omega, by simp only; omega, ?_, (e3.mod (F := ownB s2).trans m4).ext (fun b hb => (o3.block b hb).1)⟩
        simp only
        rw [wordL_take_succ _ hlt2, ← List.append_assoc, List.map_append]
        exact o4
      · have hge : j = 8 := by simp at h; omega
        subst hge
        rw [List.take_of_length_le (l := wordL (ll.getD k 0)) (by rw [wordL_length]; omega)] at o3
        refine hnext hlt _ _ ⟨by rw [succ64 k (by omega)], by simp only; omega, ?_, e3⟩
        simp only
        rw [flat_take_succ hlt]; exact o3
    · have hge : k = ll.length := by simp at h; omega
      subst hge
      rw [List.take_of_length_le (Nat.le_refl _)] at o2
      exact hK s H2 o2 e2

end Go.Proofs.Ytndnjggcpdkbiaa
