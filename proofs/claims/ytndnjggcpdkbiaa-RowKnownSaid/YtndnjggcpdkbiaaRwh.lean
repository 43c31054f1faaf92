/-
  Rows: their bytes stand to one another as they do; laid one behind the other, and read again.
-/
import Derived.Test.YtndnjggcpdkbiaaRwp
namespace Go.Proofs.Ytndnjggcpdkbiaa

/-! ### Bytes as texts -/

def bytesOf (l : List Int) : ByteArray := ⟨(l.map fun x => UInt8.ofNat x.toNat).toArray⟩

theorem bytesOf_list (l : List Int) : (bytesOf l).toList = l.map fun x => UInt8.ofNat x.toNat := by
  rw [ByteArray.toList_eq]
  simp [bytesOf]

theorem ofNat_toNat {x : Int} (h : 0 ≤ x ∧ x < 256) : ((UInt8.ofNat x.toNat).toNat : Int) = x := by
  rw [UInt8.toNat_ofNat']; omega

theorem Ints.bytesAt {H : Heap} {s : Sl} {l : List Int} (h : Ints .u8 H s l) (hb : ∀ x ∈ l, 0 ≤ x ∧ x < 256) : Go.Proofs.Ytndnjggcpdkbiaa.bytesAt H s.a s.n (bytesOf l) := by
  have hn := h.len
  unfold Go.Proofs.Ytndnjggcpdkbiaa.bytesAt
  split
  · rename_i ha
    have : l = [] := by
      cases l with
      | nil => rfl
      | cons x r =>
        obtain ⟨ad, e, _⟩ := h.at (i := 0) (by simp)
        rw [ha] at e; cases e
    subst this; rfl
  · rename_i ad ha
    refine ⟨by simp [bytesOf, ByteArray.size, hn], fun i hi => ?_⟩
    have hi2 : i < l.length := by omega
    obtain ⟨ad', e, hc⟩ := h.at hi2
    rw [ha] at e; cases e
    rw [hc]
    have : sget (bytesOf l) i = UInt8.ofNat (l[i]).toNat := by simp [sget, bytesOf, hi2]
    rw [this, ofNat_toNat (hb _ (List.getElem_mem hi2))]

theorem b2s_mk {H : Heap} {s : Sl} {l : List Int} {K : ByteArray → Prop} (h : Ints .u8 H s l) (hb : ∀ x ∈ l, 0 ≤ x ∧ x < 256) (hK : K (bytesOf l)) : b2s H s.a s.n K := ⟨_, h.bytesAt hb, hK⟩

theorem ofNat_inj {x y : Int} (hx : 0 ≤ x ∧ x < 256) (hy : 0 ≤ y ∧ y < 256) : UInt8.ofNat x.toNat = UInt8.ofNat y.toNat ↔ x = y := by
  constructor
  · intro h
    have := congrArg (fun u : UInt8 => (u.toNat : Int)) h
    simp only [ofNat_toNat hx, ofNat_toNat hy] at this
    exact this
  · rintro rfl; rfl
theorem ofNat_lt {x y : Int} (hx : 0 ≤ x ∧ x < 256) (hy : 0 ≤ y ∧ y < 256) : UInt8.ofNat x.toNat < UInt8.ofNat y.toNat ↔ x < y := by
  rw [UInt8.lt_iff_toNat_lt]
  have h1 := ofNat_toNat hx
  have h2 := ofNat_toNat hy
  omega

theorem bytes_eq : ∀ {a b : List Int}, (∀ x ∈ a, 0 ≤ x ∧ x < 256) → (∀ x ∈ b, 0 ≤ x ∧ x < 256) → ((a.map fun x => UInt8.ofNat x.toNat) = (b.map fun x => UInt8.ofNat x.toNat) ↔ a = b)
  | [], [], _, _ => by simp
  | [], _ :: _, _, _ => by simp
  | _ :: _, [], _, _ => by simp
  | x :: a, y :: b, ha, hb => by
    simp only [List.map_cons, List.cons.injEq]
    rw [ofNat_inj (ha x List.mem_cons_self) (hb y List.mem_cons_self), bytes_eq (fun z hz => ha z (List.mem_cons_of_mem _ hz)) (fun z hz => hb z (List.mem_cons_of_mem _ hz))]

theorem bytes_less : ∀ {a b : List Int}, (∀ x ∈ a, 0 ≤ x ∧ x < 256) → (∀ x ∈ b, 0 ≤ x ∧ x < 256) → Op.bytesLess (a.map fun x => UInt8.ofNat x.toNat) (b.map fun x => UInt8.ofNat x.toNat) = decide (cmpL a b < 0)
  | [], [], _, _ => by simp [Op.bytesLess, cmpL]
  | [], _ :: _, _, _ => by simp [Op.bytesLess, cmpL]
  | _ :: _, [], _, _ => by simp [Op.bytesLess, cmpL]
  | x :: a, y :: b, ha, hb => by
    have ih := bytes_less (fun z hz => ha z (List.mem_cons_of_mem _ hz)) (fun z hz => hb z (List.mem_cons_of_mem _ hz)) (a := a) (b := b)
    have h1 := ofNat_lt (ha x List.mem_cons_self) (hb y List.mem_cons_self)
    have h2 := ofNat_inj (ha x List.mem_cons_self) (hb y List.mem_cons_self)
    simp only [List.map_cons, Op.bytesLess, ih]
    have hc : cmpL (x :: a) (y :: b) = if x < y then -1 else if y < x then 1 else cmpL a b := by rw [cmpL]
    by_cases q1 : x < y
    · rw [if_pos q1] at hc
      have e1 : decide (cmpL (x :: a) (y :: b) < 0) = true := decide_eq_true (by rw [hc]; decide)
      rw [e1, decide_eq_true (h1.2 q1)]; simp
    · rw [if_neg q1] at hc
      rw [decide_eq_false (fun h => q1 (h1.1 h))]
      by_cases q2 : y < x
      · rw [if_pos q2] at hc
        have e1 : decide (cmpL (x :: a) (y :: b) < 0) = false := decide_eq_false (by rw [hc]; decide)
        have : (UInt8.ofNat x.toNat == UInt8.ofNat y.toNat) = false := by
          rw [beq_eq_false_iff_ne]; intro h; have := h2.1 h; omega
        rw [this, e1]; simp
      · rw [if_neg q2] at hc
        have e1 : decide (cmpL (x :: a) (y :: b) < 0) = decide (cmpL a b < 0) := by
          rw [Bool.eq_iff_iff, decide_eq_true_iff, decide_eq_true_iff, hc]
        have : (UInt8.ofNat x.toNat == UInt8.ofNat y.toNat) = true := by
          rw [beq_iff_eq]; exact h2.2 (by omega)
        rw [this, e1]; simp

theorem bytesOf_eq {a b : List Int} (ha : ∀ x ∈ a, 0 ≤ x ∧ x < 256) (hb : ∀ x ∈ b, 0 ≤ x ∧ x < 256) : ((bytesOf a).toList == (bytesOf b).toList) = decide (a = b) := by
  rw [bytesOf_list, bytesOf_list, Bool.eq_iff_iff, beq_iff_eq, decide_eq_true_iff]
  exact bytes_eq ha hb
theorem bytesOf_less {a b : List Int} (ha : ∀ x ∈ a, 0 ≤ x ∧ x < 256) (hb : ∀ x ∈ b, 0 ≤ x ∧ x < 256) : Op.bytesLess (bytesOf a).toList (bytesOf b).toList = decide (cmpL a b < 0) := by
  rw [bytesOf_list, bytesOf_list]
  exact bytes_less ha hb

/-! ### A word's bytes -/

theorem byteL_lit (n : Int) (k : Nat) (d : Int) (hd : (2 : Int) ^ (min (56 - 8 * (k : Int)).toNat IntKind.u64.bits) = d) (h0 : 0 ≤ d) : byteL n k = n / d % 256 := by
  unfold byteL ishr
  rw [IntKind.wrap_u8, hd, Int.fdiv_eq_ediv_of_nonneg _ h0]

/-- A word is what its bytes come to. -/
theorem wordL_bytes {n : Int} (h0 : 0 ≤ n) (h1 : n < 18446744073709551616) : ∃ b0 b1 b2 b3 b4 b5 b6 b7 : Int, wordL n = [b0, b1, b2, b3, b4, b5, b6, b7] ∧
    (0 ≤ b0 ∧ b0 < 256) ∧ (0 ≤ b1 ∧ b1 < 256) ∧ (0 ≤ b2 ∧ b2 < 256) ∧ (0 ≤ b3 ∧ b3 < 256) ∧ (0 ≤ b4 ∧ b4 < 256) ∧ (0 ≤ b5 ∧ b5 < 256) ∧ (0 ≤ b6 ∧ b6 < 256) ∧ (0 ≤ b7 ∧ b7 < 256) ∧
    n = b0 * 72057594037927936 + b1 * 281474976710656 + b2 * 1099511627776 + b3 * 4294967296 + b4 * 16777216 + b5 * 65536 + b6 * 256 + b7 := by
  refine ⟨byteL n 0, byteL n 1, byteL n 2, byteL n 3, byteL n 4, byteL n 5, byteL n 6, byteL n 7, rfl, byteL_range n 0, byteL_range n 1, byteL_range n 2, byteL_range n 3, byteL_range n 4, byteL_range n 5, byteL_range n 6, byteL_range n 7, ?_⟩
  rw [byteL_lit n 0 72057594037927936 (by decide) (by decide), byteL_lit n 1 281474976710656 (by decide) (by decide), byteL_lit n 2 1099511627776 (by decide) (by decide), byteL_lit n 3 4294967296 (by decide) (by decide),
    byteL_lit n 4 16777216 (by decide) (by decide), byteL_lit n 5 65536 (by decide) (by decide), byteL_lit n 6 256 (by decide) (by decide), byteL_lit n 7 1 (by decide) (by decide)]
  omega

theorem wstep_small {w b : Int} (h0 : 0 ≤ w) (h1 : w < 72057594037927936) (h2 : 0 ≤ b) (h3 : b < 256) : wstep w b = w * 256 + b := by
  unfold wstep
  simp only [u64_wrap]
  omega

theorem wordOf_wordL {n : Int} (h0 : 0 ≤ n) (h1 : n < 18446744073709551616) : wordOf (wordL n) = n := by
  obtain ⟨b0, b1, b2, b3, b4, b5, b6, b7, e, r0, r1, r2, r3, r4, r5, r6, r7, hs⟩ := wordL_bytes h0 h1
  rw [e]
  unfold wordOf
  simp only [List.foldl_cons, List.foldl_nil]
  rw [wstep_small (w := 0) (by omega) (by omega) r0.1 r0.2, wstep_small (by omega) (by omega) r1.1 r1.2, wstep_small (by omega) (by omega) r2.1 r2.2, wstep_small (by omega) (by omega) r3.1 r3.2,
    wstep_small (by omega) (by omega) r4.1 r4.2, wstep_small (by omega) (by omega) r5.1 r5.2, wstep_small (by omega) (by omega) r6.1 r6.2, wstep_small (by omega) (by omega) r7.1 r7.2]
  omega

def fitsL (l : List Int) : Prop := ∀ x ∈ l, 0 ≤ x ∧ x < 18446744073709551616

theorem cmpL_one {x y : Int} {a b : List Int} {c : Int} (h : cmpL a b = c) : cmpL (x :: a) (y :: b) = if x < y then -1 else if y < x then 1 else c := by
  rw [cmpL, h]

theorem cmpL_word {x y : Int} {a b : List Int} (hx : 0 ≤ x ∧ x < 18446744073709551616) (hy : 0 ≤ y ∧ y < 18446744073709551616) : cmpL (wordL x ++ a) (wordL y ++ b) = if x < y then -1 else if y < x then 1 else cmpL a b := by
  obtain ⟨b0, b1, b2, b3, b4, b5, b6, b7, e, r0, r1, r2, r3, r4, r5, r6, r7, hs⟩ := wordL_bytes hx.1 hx.2
  obtain ⟨c0, c1, c2, c3, c4, c5, c6, c7, f, t0, t1, t2, t3, t4, t5, t6, t7, ht⟩ := wordL_bytes hy.1 hy.2
  rw [e, f]
  simp only [List.cons_append, List.nil_append, cmpL]
  generalize cmpL a b = c
  have key : ∀ {p q : Int} {A B : Int}, (p < q → x < y) → (q < p → y < x) → (p = q → A = B) → B = (if x < y then -1 else if y < x then 1 else c) → (if p < q then -1 else if q < p then 1 else A) = (if x < y then -1 else if y < x then 1 else c) := by
    intro p q A B h1 h2 h3 h4
    by_cases q1 : p < q
    · rw [if_pos q1, if_pos (h1 q1)]
    · by_cases q2 : q < p
      · rw [if_neg q1, if_pos q2, if_neg (by have := h2 q2; omega), if_pos (h2 q2)]
      · rw [if_neg q1, if_neg q2, h3 (by omega), h4]
  by_cases z0 : b0 = c0
  · by_cases z1 : b1 = c1
    · by_cases z2 : b2 = c2
      · by_cases z3 : b3 = c3
        · by_cases z4 : b4 = c4
          · by_cases z5 : b5 = c5
            · by_cases z6 : b6 = c6
              · subst z0 z1 z2 z3 z4 z5 z6
                simp only [Int.lt_irrefl, if_false]
                by_cases w1 : b7 < c7
                · rw [if_pos w1, if_pos (show x < y by omega)]
                · by_cases w2 : c7 < b7
                  · rw [if_neg w1, if_pos w2, if_neg (show ¬ x < y by omega), if_pos (show y < x by omega)]
                  · rw [if_neg w1, if_neg w2, if_neg (show ¬ x < y by omega), if_neg (show ¬ y < x by omega)]
              · subst z0 z1 z2 z3 z4 z5
                simp only [Int.lt_irrefl, if_false]
                exact key (by omega) (by omega) (fun h => absurd h z6) rfl
            · subst z0 z1 z2 z3 z4
              simp only [Int.lt_irrefl, if_false]
              exact key (by omega) (by omega) (fun h => absurd h z5) rfl
          · subst z0 z1 z2 z3
            simp only [Int.lt_irrefl, if_false]
            exact key (by omega) (by omega) (fun h => absurd h z4) rfl
        · subst z0 z1 z2
          simp only [Int.lt_irrefl, if_false]
          exact key (by omega) (by omega) (fun h => absurd h z3) rfl
      · subst z0 z1
        simp only [Int.lt_irrefl, if_false]
        exact key (by omega) (by omega) (fun h => absurd h z2) rfl
    · subst z0
      simp only [Int.lt_irrefl, if_false]
      exact key (by omega) (by omega) (fun h => absurd h z1) rfl
  · exact key (by omega) (by omega) (fun h => absurd h z0) rfl

theorem cmpL_flat : ∀ {a b : List Int}, a.length = b.length → fitsL a → fitsL b → cmpL (a.flatMap wordL) (b.flatMap wordL) = cmpL a b
  | [], [], _, _, _ => rfl
  | x :: a, y :: b, hl, ha, hb => by
    simp only [List.flatMap_cons]
    rw [cmpL_word (ha x List.mem_cons_self) (hb y List.mem_cons_self), cmpL_flat (by simpa using hl) (fun z hz => ha z (List.mem_cons_of_mem _ hz)) (fun z hz => hb z (List.mem_cons_of_mem _ hz)), cmpL]

theorem cmpL_put {a b : List Int} (hl : a.length = b.length) (ha : fitsL a) (hb : fitsL b) : cmpL (putL a) (putL b) = cmpL a b := by
  unfold putL
  by_cases h : a = []
  · subst h
    have : b = [] := List.eq_nil_of_length_eq_zero (by simpa using hl.symm)
    subst this
    decide
  · have : b ≠ [] := by intro e; subst e; exact h (List.eq_nil_of_length_eq_zero (by simpa using hl))
    rw [if_neg h, if_neg this]
    exact cmpL_flat hl ha hb

/-! ### Laid one behind the other -/

theorem chunk_flat {n : Nat} : ∀ (L : List (List Int)), (∀ l ∈ L, l.length = n) → ∀ k (hk : k < L.length), ((L.flatten).drop (k * n)).take n = L[k]
  | [], _, k, hk => by simp at hk
  | l :: L, h, 0, _ => by
    have := h l List.mem_cons_self
    simp [← this]
  | l :: L, h, k + 1, hk => by
    have h1 := h l List.mem_cons_self
    have ih := chunk_flat L (fun x hx => h x (List.mem_cons_of_mem _ hx)) k (by simpa using hk)
    rw [List.flatten_cons, Nat.succ_mul, Nat.add_comm, List.drop_append, List.drop_of_length_le (by omega), List.nil_append]
    have : n + k * n - l.length = k * n := by omega
    rw [this]
    simpa using ih

theorem flat_len {n : Nat} : ∀ (L : List (List Int)), (∀ l ∈ L, l.length = n) → L.flatten.length = L.length * n
  | [], _ => by simp
  | l :: L, h => by
    rw [List.flatten_cons, List.length_append, h l List.mem_cons_self, flat_len L (fun x hx => h x (List.mem_cons_of_mem _ hx))]
    simp [Nat.succ_mul]; omega

theorem rowOf_put {l : List Int} {w : Nat} (hl : l.length = w) (hf : fitsL l) : rowOf (putL l) w = l := by
  by_cases h : l = []
  · subst h; simp at hl; subst hl; rfl
  · unfold putL
    rw [if_neg h]
    apply List.ext_getElem
    · simp [rowOf, hl]
    · intro j h1 h2
      simp only [rowOf, List.getElem_map, List.getElem_range]
      have := chunk_flat (n := 8) (l.map wordL) (by intro x hx; obtain ⟨y, _, rfl⟩ := List.mem_map.1 hx; exact wordL_length y) j (by simpa using h2)
      rw [← List.flatMap_def] at this
      rw [Nat.mul_comm, this]
      simp only [List.getElem_map]
      exact wordOf_wordL (hf _ (List.getElem_mem h2)).1 (hf _ (List.getElem_mem h2)).2

theorem put_len {l : List Int} {w : Nat} (hl : l.length = w) (hw : w ≤ 16) : (putL l).length = (sizeL w).toNat ∧ 0 < (sizeL w).toNat := by
  unfold putL sizeL
  by_cases h : l = []
  · subst h; simp at hl; subst hl; simp
  · have : 0 < l.length := List.length_pos_iff.2 h
    rw [if_neg h, if_neg (by omega), if_neg (by omega), flat_length]
    omega

theorem read_again {L : List (List Int)} {w : Nat} (hw : w ≤ 16) (hl : ∀ l ∈ L, l.length = w) (hf : ∀ l ∈ L, fitsL l) : getL (L.flatMap putL) w = L ∧ getE (L.flatMap putL) w = 0 := by
  have hlen : ∀ l ∈ L.map putL, l.length = (sizeL w).toNat := by
    intro l h
    obtain ⟨x, hx, rfl⟩ := List.mem_map.1 h
    exact (put_len (hl x hx) hw).1
  have hn0 : 0 < (sizeL w).toNat := (put_len (l := List.replicate w 0) (by simp) hw).2
  have htot : (L.flatMap putL).length = L.length * (sizeL w).toNat := by
    rw [List.flatMap_def, flat_len _ hlen]; simp
  have hok : getOK (L.flatMap putL) w = true := by
    refine getOK_good (by omega) ?_ ?_
    · have e : sizeL w = (((sizeL w).toNat : Nat) : Int) := by omega
      rw [e, htot, ← Int.ofNat_tmod, Nat.mul_mod_left]; rfl
    · intro h0 k hk
      have h0' : w = 0 := by omega
      subst h0'
      have : ∀ x ∈ L.flatMap putL, x = 0 := by
        intro x hx
        obtain ⟨l, h1, h2⟩ := List.mem_flatMap.1 hx
        have : l = [] := List.eq_nil_of_length_eq_zero (hl l h1)
        subst this
        simpa [putL] using h2
      simp only [List.getD, List.getElem?_eq_getElem hk, Option.getD_some]
      exact this _ (List.getElem_mem hk)
  unfold getL getE
  rw [hok, if_pos rfl, if_pos rfl, htot, Nat.mul_div_cancel _ hn0]
  refine ⟨?_, rfl⟩
  apply List.ext_getElem
  · simp [rowsOf]
  · intro k h1 h2
    simp only [rowsOf, List.getElem_map, List.getElem_range]
    have := chunk_flat (L.map putL) hlen k (by simpa using h2)
    rw [← List.flatMap_def] at this
    unfold chunkOf
    rw [this]
    simp only [List.getElem_map, Int.toNat_natCast]
    exact rowOf_put (hl _ (List.getElem_mem h2)) (hf _ (List.getElem_mem h2))

end Go.Proofs.Ytndnjggcpdkbiaa
