/-
  Rows: orders, beginnings, lent rows, room.
-/
import Derived.Test.YtndnjggcpdkbiaaRwa
namespace Go.Proofs.Ytndnjggcpdkbiaa

/-- Is 'e' the type of slices' elements? -/
def elB (P : Program) (t e : TypeId) (bytes : Nat) (z : Value → Bool) : Bool :=
  (match P.underlying t with | some (.slice e') => Nat.beq e' e | _ => false) &&
  (match P.info? e with | some inf => (match inf.zero with | some v => z v && Nat.beq v.cells.size 1 | none => false) && (Nat.beq inf.size 1 && Nat.beq inf.bytes bytes) | none => false)

theorem El_of {P : Program} {t e : TypeId} {bytes : Nat} {z : Value} {zb : Value → Bool} (hz : ∀ v, zb v = true → v = z) (hzc : z.cells = #[z]) (h : elB P t e bytes zb = true) : El P t e bytes z := by
  unfold elB at h
  simp only [Bool.and_eq_true] at h
  obtain ⟨h1, h2⟩ := h
  split at h1
  · rename_i e' he
    split at h2
    · rename_i inf hi
      simp only [Bool.and_eq_true] at h2
      obtain ⟨h3, h4, h5⟩ := h2
      split at h3
      · rename_i v hv
        simp only [Bool.and_eq_true] at h3
        have := Nat.eq_of_beq_eq_true h1
        subst this
        exact ⟨inf, he, hi, by rw [hv, hz v h3.1], hzc, Nat.eq_of_beq_eq_true h4, Nat.eq_of_beq_eq_true h5⟩
      · cases h3
    · cases h2
  · cases h1

def isInt0 (k : IntKind) (v : Value) : Bool := match v with | .int k' n => k' == k && decide (n = 0) | _ => false
theorem isInt0_eq {k : IntKind} (v : Value) (h : isInt0 k v = true) : v = .int k 0 := by
  unfold isInt0 at h
  split at h
  · simp at h; rw [h.1, h.2]
  · cases h
def isSl0 (v : Value) : Bool := match v with | .slice none n c => Nat.beq n 0 && Nat.beq c 0 | _ => false
theorem isSl0_eq (v : Value) (h : isSl0 v = true) : v = .slice none 0 0 := by
  unfold isSl0 at h
  split at h
  · simp at h; rw [h.1, h.2]
  · cases h

theorem elU64 : El Try.prog ty_sl_uint64 ty_uint64 8 (.int .u64 0) := El_of (zb := isInt0 .u64) isInt0_eq rfl (by kernel_rfl)
theorem elU8 : El Try.prog ty_sl_uint8 ty_uint8 1 (.int .u8 0) := El_of (zb := isInt0 .u8) isInt0_eq rfl (by kernel_rfl)
theorem elInt : El Try.prog ty_sl_int ty_int 8 (.int .i64 0) := El_of (zb := isInt0 .i64) isInt0_eq rfl (by kernel_rfl)
theorem elRow : El Try.prog ty_sl_sl_uint64 ty_sl_uint64 24 (.slice none 0 0) := El_of (zb := isSl0) isSl0_eq rfl (by kernel_rfl)

theorem slA_zero (a : Option Addr) (c : Nat) : slA a c 0 1 = a := by
  unfold slA
  split
  · rfl
  · cases a <;> simp [add_zero']

/-! ### Orders -/

def cmpL : List Int → List Int → Int
  | [], [] => 0
  | [], _ :: _ => -1
  | _ :: _, [] => 1
  | x :: a, y :: b => if x < y then -1 else if y < x then 1 else cmpL a b

theorem cmpL_zero : ∀ {a b : List Int}, cmpL a b = 0 ↔ a = b
  | [], [] => by simp [cmpL]
  | [], _ :: _ => by simp [cmpL]
  | _ :: _, [] => by simp [cmpL]
  | x :: a, y :: b => by
    unfold cmpL
    have ih := @cmpL_zero a b
    split
    · simp; intro h; omega
    · split
      · simp; intro h; omega
      · rw [ih]; simp; intro; omega
theorem cmpL_swap : ∀ (a b : List Int), cmpL b a = - cmpL a b
  | [], [] => by simp [cmpL]
  | [], _ :: _ => by simp [cmpL]
  | _ :: _, [] => by simp [cmpL]
  | x :: a, y :: b => by
    have ih := cmpL_swap a b
    simp only [cmpL]
    split
    · rw [if_neg (by omega)]; try rfl
    · split
      · rfl
      · exact ih
theorem cmpL_cases (a b : List Int) : cmpL a b = -1 ∨ cmpL a b = 0 ∨ cmpL a b = 1 := by
  induction a generalizing b with
  | nil => cases b <;> simp [cmpL]
  | cons x a ih => cases b with
    | nil => simp [cmpL]
    | cons y b =>
      simp only [cmpL]
      split
      · simp
      · split
        · simp
        · exact ih b

theorem drop_cons {l : List Int} {k : Nat} (h : k < l.length) : l.drop k = l.getD k 0 :: l.drop (k + 1) := by
  rw [List.drop_eq_getElem_cons h]; simp [List.getD, List.getElem?_eq_getElem h]

theorem refCmp_ok {a b : Sl} {la lb : List Int} {H : Heap} {K : Int → Heap → Prop} (ha : Ints .u64 H a la) (hb : Ints .u64 H b lb) (hlen : la.length < 1099511627776) (hK : K (cmpL la lb) H) : fathomref06_Cmp.sp a b H K := by
  refine fathomref06_Cmp.of ?_
  unfold fathomref06_Cmp.vc
  have la1 := ha.len
  have lb1 := hb.len
  refine loop_upto la.length (fun k i H' => i = (k : Int) ∧ k ≤ lb.length ∧ H' = H ∧ cmpL la lb = cmpL (la.drop k) (lb.drop k)) ⟨rfl, Nat.zero_le _, rfl, by simp⟩ ?_
  rintro k i H' next hk ⟨rfl, hkb, rfl, hc⟩ hnext
  refine br_mk (fun h => ?_) (fun h => ?_)
  · simp only [Bool.and_eq_true, decide_eq_true_eq] at h
    have h1 : k < la.length := by omega
    have h2 : k < lb.length := by omega
    rw [drop_cons h1, drop_cons h2, cmpL] at hc
    refine ha.ld (by omega) (by omega) fun ad1 e1 => ?_
    refine hb.ld (by omega) (by omega) fun ad2 e2 => ?_
    simp only [Int.toNat_natCast]
    refine br_mk (fun h3 => ?_) (fun h3 => ?_)
    · have h3' : la.getD k 0 < lb.getD k 0 := by simpa using h3
      rw [if_pos h3'] at hc; rw [← hc]; exact hK
    · have h3' : ¬ la.getD k 0 < lb.getD k 0 := by simpa using h3
      rw [if_neg h3'] at hc
      refine ha.ld (by omega) (by omega) fun ad3 e3 => ?_
      refine hb.ld (by omega) (by omega) fun ad4 e4 => ?_
      simp only [Int.toNat_natCast]
      refine br_mk (fun h4 => ?_) (fun h4 => ?_)
      · have h4' : lb.getD k 0 < la.getD k 0 := by simpa using h4
        rw [if_pos h4'] at hc; rw [← hc]; exact hK
      · have h4' : ¬ lb.getD k 0 < la.getD k 0 := by simpa using h4
        rw [if_neg h4'] at hc
        exact hnext h1 _ _ ⟨by rw [succ64 k (by omega)], h2, rfl, hc⟩
  · have h' : la.length ≤ k ∨ lb.length ≤ k := by
      simp only [Bool.and_eq_false_iff, decide_eq_false_iff_not] at h
      omega
    have e : cmpL la lb = if la.length < lb.length then -1 else if la.length > lb.length then 1 else 0 := by
      rw [hc]
      rcases h' with h' | h'
      · rw [List.drop_of_length_le h']
        cases hd : lb.drop k with
        | nil =>
          have := List.drop_eq_nil_iff.1 hd
          rw [if_neg (by omega), if_neg (by omega)]; rfl
        | cons y r =>
          have := List.length_drop (i := k) (l := lb)
          rw [hd] at this; simp at this
          rw [if_pos (by omega)]; rfl
      · rw [List.drop_of_length_le h']
        cases hd : la.drop k with
        | nil =>
          have := List.drop_eq_nil_iff.1 hd
          rw [if_neg (by omega), if_neg (by omega)]; rfl
        | cons y r =>
          have := List.length_drop (i := k) (l := la)
          rw [hd] at this; simp at this
          rw [if_neg (by omega), if_pos (by omega)]; rfl
    rw [e] at hK
    refine br_mk (fun h3 => ?_) (fun h3 => ?_)
    · rw [if_pos (by simp at h3; omega)] at hK; exact hK
    · rw [if_neg (by simp at h3; omega)] at hK
      refine br_mk (fun h4 => ?_) (fun h4 => ?_)
      · rw [if_pos (by simp at h4; omega)] at hK; exact hK
      · rw [if_neg (by simp at h4; omega)] at hK; exact hK

theorem cmpCompare_ok {x y : Int} {H : Heap} {K : Int → Heap → Prop} (hK : K (if x < y then -1 else if y < x then 1 else 0) H) : cmp_Compare_uint64.sp x y H K := by
  have hn : ∀ {z : Int} {H : Heap} {K : Bool → Heap → Prop}, K false H → cmp_isNaN_uint64.sp z H K := by
    intro z H K h
    refine cmp_isNaN_uint64.of ?_
    unfold cmp_isNaN_uint64.vc
    simpa using h
  refine cmp_Compare_uint64.of ?_
  unfold cmp_Compare_uint64.vc
  refine hn (hn ?_)
  simp only [br]
  refine br_mk (fun h => ?_) (fun h => ?_)
  · rw [if_pos (by simpa using h)] at hK; exact hK
  · rw [if_neg (by simpa using h)] at hK
    refine br_mk (fun h => ?_) (fun h => ?_)
    · rw [if_pos (by simpa using h)] at hK; exact hK
    · rw [if_neg (by simpa using h)] at hK; exact hK

theorem rowCmp_ok {a b : Sl} {la lb : List Int} {H : Heap} {K : Int → Heap → Prop} (ha : Ints .u64 H a la) (hb : Ints .u64 H b lb) (hlen : la.length < 1099511627776) (hK : K (cmpL la lb) H) : row_Cmp.sp a b H K := by
  refine row_Cmp.of ?_
  unfold row_Cmp.vc
  refine slices_CompareFunc_sl_uint64_sl_uint64_uint64_uint64.of ?_
  unfold slices_CompareFunc_sl_uint64_sl_uint64_uint64_uint64.vc
  have la1 := ha.len
  have lb1 := hb.len
  refine loop_upto la.length (fun k i H' => i = (k : Int) ∧ k ≤ lb.length ∧ H' = H ∧ cmpL la lb = cmpL (la.drop k) (lb.drop k)) ⟨rfl, Nat.zero_le _, rfl, by simp⟩ ?_
  rintro k i H' next hk ⟨rfl, hkb, rfl, hc⟩ hnext
  refine br_mk (fun h => ?_) (fun h => ?_)
  · have h1 : k < la.length := by simp at h; omega
    rw [drop_cons h1] at hc
    refine ha.ld (by omega) (by omega) fun ad1 e1 => ?_
    simp only [Int.toNat_natCast]
    refine br_mk (fun h2 => ?_) (fun h2 => ?_)
    · have h2' : lb.length ≤ k := by simp at h2; omega
      rw [List.drop_of_length_le h2', cmpL] at hc
      rw [← hc]; exact hK
    · have h2' : k < lb.length := by simp at h2; omega
      rw [drop_cons h2', cmpL] at hc
      refine hb.ld (by omega) (by omega) fun ad2 e2 => ?_
      simp only [Int.toNat_natCast]
      refine cmpCompare_ok ?_
      refine br_mk (fun h3 => ?_) (fun h3 => ?_)
      · have e : cmpL la lb = (if la.getD k 0 < lb.getD k 0 then -1 else if lb.getD k 0 < la.getD k 0 then 1 else 0) := by
          rw [hc]
          by_cases q1 : la.getD k 0 < lb.getD k 0
          · rw [if_pos q1, if_pos q1]
          · by_cases q2 : lb.getD k 0 < la.getD k 0
            · rw [if_neg q1, if_pos q2, if_neg q1, if_pos q2]
            · rw [if_neg q1, if_neg q2] at h3; simp at h3
        rw [← e]; exact hK
      · have h3' : ¬ la.getD k 0 < lb.getD k 0 ∧ ¬ lb.getD k 0 < la.getD k 0 := by
          constructor
          · intro q; rw [if_pos q] at h3; simp at h3
          · intro q; rw [if_neg (by omega), if_pos q] at h3; simp at h3
        rw [if_neg h3'.1, if_neg h3'.2] at hc
        exact hnext h1 _ _ ⟨by rw [succ64 k (by omega)], h2', rfl, hc⟩
  · have h1 : la.length ≤ k := by simp at h; omega
    rw [List.drop_of_length_le h1] at hc
    refine br_mk (fun h2 => ?_) (fun h2 => ?_)
    · have h2' : k < lb.length := by simp at h2; omega
      rw [drop_cons h2', cmpL] at hc
      rw [← hc]; exact hK
    · have h2' : lb.length ≤ k := by simp at h2; omega
      rw [List.drop_of_length_le h2', cmpL] at hc
      rw [← hc]; exact hK

theorem Ints.front {k : IntKind} {H : Heap} {s : Sl} {l : List Int} (h : Ints k H s l) {n : Nat} (hn : n ≤ l.length) (c : Nat) : Ints k H ⟨s.a, n, c⟩ (l.take n) :=
  ⟨by simp; omega, by rw [List.map_take]; exact h.reads.take n⟩

theorem slicesEqual_ok {a b : Sl} {la lb : List Int} {H : Heap} {K : Bool → Heap → Prop} (ha : Ints .u64 H a la) (hb : Ints .u64 H b lb) (hlen : la.length < 1099511627776) (hK : K (decide (la = lb)) H) : slices_Equal_sl_uint64_uint64.sp a b H K := by
  refine slices_Equal_sl_uint64_uint64.of ?_
  have := SameRow_ok ha hb hlen hK
  unfold slices_Equal_sl_uint64_uint64.vc
  have la1 := ha.len
  have lb1 := hb.len
  refine br_mk (fun h => ?_) (fun h => ?_)
  · have h1 : la ≠ lb := by intro e; subst e; simp [la1, lb1] at h
    simpa [h1] using hK
  · have h' : (a.n : Int) = (b.n : Int) := by simpa using h
    have hl : la.length = lb.length := by omega
    refine loop_upto la.length (fun k i H' => i = (k : Int) ∧ H' = H ∧ la.take k = lb.take k) ⟨rfl, rfl, by simp⟩ ?_
    rintro k i H' next hk ⟨rfl, rfl, ht⟩ hnext
    refine br_mk (fun h1 => ?_) (fun h1 => ?_)
    · have hlt : k < la.length := by simp at h1; omega
      refine ha.ld (by omega) (by omega) fun ad1 e1 => ?_
      refine hb.ld (by omega) (by omega) fun ad2 e2 => ?_
      simp only [Int.toNat_natCast]
      refine br_mk (fun h2 => ?_) (fun h2 => ?_)
      · have h3 : la ≠ lb := by intro e; subst e; simp at h2
        simpa [h3] using hK
      · refine hnext hlt _ _ ⟨by rw [succ64 k (by omega)], rfl, ?_⟩
        rw [List.take_succ_eq_append_getElem hlt, List.take_succ_eq_append_getElem (by omega : k < lb.length), ht]
        have : la[k]'hlt = lb[k]'(by omega) := by simpa [List.getD, List.getElem?_eq_getElem hlt, List.getElem?_eq_getElem (by omega : k < lb.length)] using h2
        rw [this]
    · have hge : k = la.length := by simp at h1; omega
      subst hge
      have h2 : la = lb := by rw [List.take_of_length_le (Nat.le_refl _), List.take_of_length_le (by omega)] at ht; exact ht
      simpa [h2] using hK

def beginsL (l p : List Int) : Bool := decide (p.length ≤ l.length ∧ l.take p.length = p)

theorem rowBegins_ok {a b : Sl} {la lb : List Int} {H : Heap} {K : Bool → Heap → Prop} (ha : Ints .u64 H a la) (hb : Ints .u64 H b lb) (hc : a.n ≤ a.c) (hlen : la.length < 1099511627776) (hK : K (beginsL la lb) H) : row_Begins.sp a b H K := by
  refine row_Begins.of ?_
  unfold row_Begins.vc
  have la1 := ha.len
  have lb1 := hb.len
  refine br_mk (fun h => ?_) (fun h => ?_)
  · have h' : lb.length ≤ la.length := by simp at h; omega
    refine ⟨by omega, ?_⟩
    rw [slA_zero]
    refine slicesEqual_ok (la := la.take lb.length) (lb := lb) ?_ hb (by simp; omega) ?_
    · have := ha.front h' (a.c - 0)
      rw [lb1]; simpa using this
    · unfold beginsL at hK; simpa [h'] using hK
  · have h' : ¬ lb.length ≤ la.length := by simp at h; omega
    unfold beginsL at hK; simpa [h'] using hK

theorem refBegins_ok {a b : Sl} {la lb : List Int} {H : Heap} {K : Bool → Heap → Prop} (ha : Ints .u64 H a la) (hb : Ints .u64 H b lb) (hc : a.n ≤ a.c) (hlen : la.length < 1099511627776) (hK : K (beginsL la lb) H) : fathomref06_Begins.sp a b H K := by
  refine fathomref06_Begins.of ?_
  unfold fathomref06_Begins.vc
  have la1 := ha.len
  have lb1 := hb.len
  refine br_mk (fun h => ?_) (fun h => ?_)
  · have h' : lb.length ≤ la.length := by simp at h; omega
    refine ⟨by omega, ?_⟩
    rw [slA_zero]
    refine refCmp_ok (la := la.take lb.length) (lb := lb) ?_ hb (by simp; omega) ?_
    · have := ha.front h' (a.c - 0)
      rw [lb1]; simpa using this
    · have e : (cmpL (la.take lb.length) lb == 0) = beginsL la lb := by
        unfold beginsL
        rw [Bool.eq_iff_iff]
        simp [h', cmpL_zero]
      rw [e]; exact hK
  · have h' : ¬ lb.length ≤ la.length := by simp at h; omega
    unfold beginsL at hK; simpa [h'] using hK

/-! ### Lent rows -/

theorem intsOne (k : IntKind) (l : List Int) : ∀ u ∈ l.map (Value.int k), u.oneCell' = true := by
  intro u hu
  obtain ⟨x, _, rfl⟩ := List.mem_map.1 hu
  rfl

/-- 'r' is a lent row: its words, a mark behind, all in memory of its own. -/
structure LentR (H : Heap) (base : Nat) (r : Sl) (l : List Int) : Prop where
  own : Owns H base ty_uint64 1 ⟨r.a, r.n + 1, r.c⟩ ((l ++ [30583]).map (Value.int .u64))
theorem LentR.len {H : Heap} {base : Nat} {r : Sl} {l : List Int} (h : LentR H base r l) : r.n = l.length := by
  have := h.own.1; simp at this; omega
theorem Owns.cap {H : Heap} {base : Nat} {e : TypeId} {size : Nat} {s : Sl} {xs : List Value} (h : Owns H base e size s xs) : s.n ≤ s.c := by
  rcases h.2 with ⟨e1, e2⟩ | ⟨g, cap, cur, e1, hb, hg, h4, h5, h6, h7⟩
  · omega
  · cases s; simp only [Sl.v, Value.slice.injEq] at e1; simp only at h4 ⊢; omega
theorem LentR.cap {H : Heap} {base : Nat} {r : Sl} {l : List Int} (h : LentR H base r l) : r.n + 1 ≤ r.c := h.own.cap
theorem LentR.ints {H : Heap} {base : Nat} {r : Sl} {l : List Int} (h : LentR H base r l) : Ints .u64 H r l := by
  refine ⟨h.len, ?_⟩
  have := h.own.reads.take l.length
  simpa using this
theorem LentR.mod {F : Nat → Prop} {H H' : Heap} {base : Nat} {r : Sl} {l : List Int} (h : LentR H base r l) (hm : Mod F H H') (hn : ∀ b, ownB r b → ¬ F b) : LentR H' base r l := ⟨h.own.mod hm hn⟩
theorem LentR.ext {H H' : Heap} {base : Nat} {r : Sl} {l : List Int} (h : LentR H base r l) (hm : Ext H H') : LentR H' base r l := ⟨h.own.ext hm⟩
theorem LentR.block {H : Heap} {base : Nat} {r : Sl} {l : List Int} (h : LentR H base r l) : ∀ b, ownB r b → base ≤ b ∧ b < H.size := h.own.block

theorem Lent_ok {l : Sl} {ll : List Int} {H : Heap} {K : Sl → Heap → Prop} (hl : Ints .u64 H l ll) (hlen : ll.length ≤ 1000000)
    (hK : ∀ r H', LentR H' H.size r ll → Ext H H' → K r H') : fathomkit_Lent.sp l H K := by
  refine fathomkit_Lent.of ?_
  unfold fathomkit_Lent.vc
  have ln := hl.len
  refine elU64.append (base := H.size) (s := Sl.mk none 0 0) (x := l) (xs := []) (ws := ll.map (Value.int .u64)) (Owns.nil _ _ _ _) (by simp; omega) hl.reads (intsOne _ _) (by simp only; omega) (by simp only; omega) (Nat.le_refl _) ?_
  intro out H1 n1 o1 m1 b1 _
  simp only at n1
  have e1 : Ext H H1 := m1.ext (by rintro b ⟨ad, h, _⟩; cases h)
  refine elU64.push (base := H.size) (s := out) o1 rfl (by omega) (by omega) e1.size ?_
  intro out2 H2 n2 o2 m2 b2 _
  have e2 : Ext H H2 := (e1.mod (F := ownB out).trans m2).ext (fun b hb => (o1.block b hb).1)
  have hc := o2.cap
  refine ⟨by omega, ?_⟩
  refine hK _ _ ⟨?_⟩ e2
  rw [slA_zero]
  have en : out2.n = (l.n : Int).toNat - 0 + 1 := by simp; omega
  have : Sl.mk out2.a ((l.n : Int).toNat - 0 + 1) (out2.c - 0) = out2 := by cases out2; simp only at en; simp [en]
  show Owns H2 H.size ty_uint64 1 (Sl.mk out2.a ((l.n : Int).toNat - 0 + 1) (out2.c - 0)) _
  rw [this]
  simpa using o2

theorem Kept_ok {r l : Sl} {ll : List Int} {base : Nat} {H : Heap} {K : Bool → Heap → Prop} (hr : LentR H base r ll) (hl : Ints .u64 H l ll) (hlen : ll.length ≤ 1000000) (hK : K true H) : fathomkit_Kept.sp r l H K := by
  refine fathomkit_Kept.of ?_
  unfold fathomkit_Kept.vc
  have ln := hl.len
  have rn := hr.len
  have hc := hr.cap
  refine SameRow_ok hr.ints hl (by omega) ?_
  simp only [decide_true, br]
  rw [wrap64 (by omega) (by omega)]
  refine ⟨by omega, ?_⟩
  rw [slA_zero]
  obtain ⟨ad, ha, hcell⟩ := hr.own.reads.at (i := ll.length) (by simp)
  refine optK_mk ad ha ⟨by omega, 30583, ?_, hK⟩
  simp only [Int.toNat_natCast, Nat.mul_one, ln]
  rw [hcell]; simp

theorem Spoil_ok {l : Sl} {xs : List Value} {base : Nat} {H : Heap} {K : Unit → Heap → Prop} (hl : Owns H base ty_uint64 1 l xs) (hlen : l.n ≤ 1000000) (hbase : base ≤ H.size)
    (hK : ∀ H', Mod (ownB l) H H' → K () H') : fathomkit_Spoil.sp l H K := by
  refine fathomkit_Spoil.of ?_
  unfold fathomkit_Spoil.vc
  refine loop_upto l.n (fun k i H' => i = (k : Int) ∧ Mod (ownB l) H H' ∧ ∃ ys, Owns H' base ty_uint64 1 l ys) ⟨rfl, .refl _ _, _, hl⟩ ?_
  rintro k i H1 next hk ⟨rfl, m1, ys, o1⟩ hnext
  refine br_mk (fun h => ?_) (fun h => ?_)
  · have hlt : k < l.n := by simp at h; omega
    refine o1.st (by omega) (by omega) rfl fun H2 o2 m2 _ => ?_
    exact hnext hlt _ _ ⟨by rw [succ64 k (by omega)], m1.trans m2, _, o2⟩
  · refine loop_upto 3 (fun k z H' => z.2 = (k : Int) ∧ z.1.n = l.n + k ∧ Mod (ownB l) H H' ∧ (∀ b, ownB z.1 b → ownB l b ∨ H.size ≤ b) ∧ ∃ ys, Owns H' base ty_uint64 1 z.1 ys) ⟨rfl, rfl, m1, fun b hb => .inl hb, _, o1⟩ ?_
    rintro j ⟨m, i⟩ H3 next3 hj ⟨hi, hn, m3, b3, ys3, o3⟩ hnext3
    simp only at hi hn b3 o3 ⊢
    subst hi
    refine br_mk (fun h2 => ?_) (fun h2 => ?_)
    · have hlt : j < 3 := by simp at h2; omega
      refine elU64.push (base := base) o3 rfl (by omega) (by omega) (Nat.le_trans hbase m3.size) ?_
      intro m' H4 n4 o4 m4 b4 _
      refine hnext3 hlt _ _ ⟨by rw [succ64 j (by omega)], by simp only; omega, m3.trans' m4 (fun b hb hb' => ?_), fun b hb => ?_, _, o4⟩
      · rcases b3 b hb' with h5 | h5
        · exact h5
        · omega
      · rcases b4 b hb with h5 | h5
        · exact b3 b h5
        · exact .inr (Nat.le_trans m3.size h5)
    · exact hK _ m3

/-! ### Room -/

def sizeL (w : Int) : Int := if w < 0 ∨ w > 16 then 0 else if w = 0 then 1 else 8 * w

theorem rowSize_ok {w : Int} {H : Heap} {K : Int → Heap → Prop} (hK : K (sizeL w) H) : row_size.sp w H K := by
  refine row_size.of ?_
  unfold row_size.vc
  unfold sizeL at hK
  refine br_mk (fun h => ?_) (fun h => ?_)
  · have h' : w < 0 := by simpa using h
    rw [if_pos (.inl h')] at hK
    simpa [h', br] using hK
  · have h' : ¬ w < 0 := by simpa using h
    refine br_mk (fun h2 => ?_) (fun h2 => ?_)
    · rw [if_pos (.inr (by simpa using h2))] at hK; exact hK
    · have h2' : ¬ w > 16 := by simpa using h2
      rw [if_neg (by omega)] at hK
      refine br_mk (fun h3 => ?_) (fun h3 => ?_)
      · rw [if_pos (by simpa using h3)] at hK; exact hK
      · rw [if_neg (by simpa using h3)] at hK
        rw [wrap64 (by omega) (by omega)]; exact hK

theorem refSize_ok {w : Int} {H : Heap} {K : Int → Heap → Prop} (hK : K (sizeL w) H) : fathomref06_size.sp w H K := by
  refine fathomref06_size.of ?_
  unfold fathomref06_size.vc
  unfold sizeL at hK
  refine br_mk (fun h => ?_) (fun h => ?_)
  · rw [if_pos (by simpa using h)] at hK; exact hK
  · have h' : ¬ (w < 0 ∨ w > 16) := by simpa using h
    rw [if_neg h'] at hK
    rw [wrap64 (by omega) (by omega)]
    by_cases h0 : w = 0
    · rw [if_pos h0] at hK; subst h0; simpa using hK
    · rw [if_neg h0] at hK; rw [if_pos (by omega)]; exact hK

def roomL (w : Int) : Int := if sizeL w = 0 then 0 else Int.tdiv 504 (sizeL w)
theorem sizeL_cases (w : Int) : sizeL w = 0 ∨ (0 < sizeL w ∧ sizeL w ≤ 128) := by
  unfold sizeL; split
  · simp
  · split
    · simp
    · right; omega
theorem roomL_bound (w : Int) : IntKind.i64.wrap (Int.tdiv 504 (sizeL w)) = Int.tdiv 504 (sizeL w) := by
  have h0 := Int.tdiv_nonneg (a := 504) (b := sizeL w) (by omega) (by rcases sizeL_cases w with h | h <;> omega)
  have h1 : Int.tdiv 504 (sizeL w) ≤ 504 := by
    rcases sizeL_cases w with h | h
    · rw [h]; simp
    · exact Int.tdiv_le_self _ (by omega)
  exact wrap64 (by omega) (by omega)
theorem rowRoom_ok {w : Int} {H : Heap} {K : Int → Heap → Prop} (hK : K (roomL w) H) : row_Room.sp w H K := by
  refine row_Room.of ?_
  unfold row_Room.vc
  refine rowSize_ok ?_
  unfold roomL at hK
  have hc := sizeL_cases w
  refine br_mk (fun h => ?_) (fun h => ?_)
  · have h' : sizeL w > 0 := by simpa using h
    rw [if_neg (by omega)] at hK
    refine ⟨by omega, ?_⟩
    rw [roomL_bound]; exact hK
  · have h' : ¬ sizeL w > 0 := by simpa using h
    rw [if_pos (by omega)] at hK; exact hK
theorem refRoom_ok {w : Int} {H : Heap} {K : Int → Heap → Prop} (hK : K (roomL w) H) : fathomref06_Room.sp w H K := by
  refine fathomref06_Room.of ?_
  unfold fathomref06_Room.vc
  refine refSize_ok ?_
  unfold roomL at hK
  refine br_mk (fun h => ?_) (fun h => ?_)
  · rw [if_pos (by simpa using h)] at hK; exact hK
  · rw [if_neg (by simpa using h)] at hK
    refine ⟨by simpa using h, ?_⟩
    rw [roomL_bound]; exact hK

end Go.Proofs.Ytndnjggcpdkbiaa
