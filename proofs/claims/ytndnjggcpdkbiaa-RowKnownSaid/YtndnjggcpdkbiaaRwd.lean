/-
  Rows: bytes read as rows.
-/
import Derived.Test.YtndnjggcpdkbiaaRwc
namespace Go.Proofs.Ytndnjggcpdkbiaa

/-! ### What is read -/

def wstep (w b : Int) : Int := IntKind.u64.wrap (IntKind.u64.wrap (w * 256) + IntKind.u64.wrap b)
def wordOf (bs : List Int) : Int := bs.foldl wstep 0
def rowOf (c : List Int) (w : Nat) : List Int := (List.range w).map fun j => wordOf ((c.drop (8 * j)).take 8)
def getOK (b : List Int) (w : Int) : Bool := decide (sizeL w ≠ 0) && decide (Int.tmod (b.length : Int) (sizeL w) = 0) && (decide (w ≠ 0) || b.all fun x => decide (x = 0))
def chunkOf (b : List Int) (n k : Nat) : List Int := (b.drop (k * n)).take n
def rowsOf (b : List Int) (w : Int) (m : Nat) : List (List Int) := (List.range m).map fun k => rowOf (chunkOf b (sizeL w).toNat k) w.toNat
def getL (b : List Int) (w : Int) : List (List Int) := if getOK b w then rowsOf b w (b.length / (sizeL w).toNat) else []
def getE (b : List Int) (w : Int) : Int := if getOK b w then 0 else 60

theorem u64_wrap (x : Int) : IntKind.u64.wrap x = x % 18446744073709551616 := by
  rw [IntKind.wrap_u64]

theorem wstep_range (w b : Int) : 0 ≤ wstep w b ∧ wstep w b < 18446744073709551616 := by
  unfold wstep; rw [u64_wrap]; omega
theorem wordOf_range (bs : List Int) : 0 ≤ wordOf bs ∧ wordOf bs < 18446744073709551616 := by
  unfold wordOf
  rcases List.eq_nil_or_concat bs with h | ⟨l, x, h⟩
  · subst h; simp
  · subst h; rw [List.concat_eq_append, List.foldl_append]; exact wstep_range _ _

theorem ior_word {x b : Int} (hx : 0 ≤ x) (hx2 : x < 18446744073709551616) (hb : 0 ≤ b) (hb2 : b < 256) : ior .u64 (ishl .u64 x 8) (IntKind.u64.wrap b) = wstep x b := by
  unfold wstep ior ishl
  have e0 : (2 : Int) ^ (min (8 : Int).toNat IntKind.u64.bits) = 256 := by decide
  rw [e0]
  simp only [u64_wrap]
  obtain ⟨n, rfl⟩ := Int.eq_ofNat_of_zero_le hx
  obtain ⟨m, rfl⟩ := Int.eq_ofNat_of_zero_le hb
  have hm : m < 256 := by omega
  obtain ⟨r, hr⟩ : ∃ r, r = n % 72057594037927936 := ⟨_, rfl⟩
  have hr2 : r < 72057594037927936 := by omega
  have e1 : ((n : Int) * 256) % 18446744073709551616 = ((256 * r : Nat) : Int) := by omega
  have e2 : (m : Int) % 18446744073709551616 = ((m : Nat) : Int) := by omega
  have e3 : (BitVec.ofInt IntKind.u64.bits ((256 * r : Nat) : Int) ||| BitVec.ofInt IntKind.u64.bits ((m : Nat) : Int)).toNat = 256 * r + m := by
    have hb64 : IntKind.u64.bits = 64 := rfl
    have hor := Nat.two_pow_add_eq_or_of_lt (i := 8) (b := m) hm r
    rw [BitVec.ofInt_natCast, BitVec.ofInt_natCast, BitVec.toNat_or, BitVec.toNat_ofNat, BitVec.toNat_ofNat, hb64, Nat.mod_eq_of_lt (by omega), Nat.mod_eq_of_lt (by omega)]
    exact hor.symm
  rw [e1, e2, e3]
  rw [Int.natCast_add]

theorem rowOf_zero (c : List Int) : rowOf c 0 = [] := rfl
theorem rowOf_length (c : List Int) (w : Nat) : (rowOf c w).length = w := by simp [rowOf]

/-- The words after so many bytes. -/
theorem rowOf_step {c : List Int} {w i : Nat} (hi : i < c.length) (hw : c.length = 8 * w) :
    (rowOf (c.take i) w).set (i / 8) (wstep ((rowOf (c.take i) w).getD (i / 8) 0) (c.getD i 0)) = rowOf (c.take (i + 1)) w := by
  have hq : i / 8 < w := by omega
  apply List.ext_getElem
  · simp [rowOf]
  · intro j h1 h2
    have hj : j < w := by simpa [rowOf] using h2
    have e0 : ∀ t, ((c.take t).drop (8 * j)).take 8 = (c.drop (8 * j)).take (min 8 (t - 8 * j)) := by
      intro t; rw [List.drop_take, List.take_take]
    rw [List.getElem_set]
    by_cases hji : i / 8 = j
    · subst hji
      rw [if_pos rfl]
      simp only [rowOf, List.getD, List.getElem?_map, List.getElem?_range hq, Option.map_some, Option.getD_some, List.getElem_map, List.getElem_range]
      simp only [e0]
      have e1 : min 8 (i + 1 - 8 * (i / 8)) = min 8 (i - 8 * (i / 8)) + 1 := by omega
      have e2 : min 8 (i - 8 * (i / 8)) = i - 8 * (i / 8) := by omega
      have hlt : i - 8 * (i / 8) < (c.drop (8 * (i / 8))).length := by simp; omega
      rw [e1, e2, List.take_succ_eq_append_getElem hlt]
      unfold wordOf
      rw [List.foldl_append, List.foldl_cons, List.foldl_nil]
      congr 1
      rw [List.getElem?_eq_getElem hi, Option.getD_some, List.getElem_drop]
      congr 1
      omega
    · rw [if_neg hji]
      simp only [rowOf, List.getElem_map, List.getElem_range, e0]
      congr 2
      omega

theorem rowOf_nil (w : Nat) : rowOf [] w = List.replicate w 0 := by
  apply List.ext_getElem
  · simp [rowOf]
  · intro j h1 h2; simp [rowOf, wordOf]

/-! ### Lists of rows of one's own -/

theorem Owns.obj {H : Heap} {base : Nat} {e : TypeId} {size : Nat} {s : Sl} {xs : List Value} (h : Owns H base e size s xs) : ∀ b, ownB s b → ∃ cur, H[b]? = some (.cells cur e (0, 0)) := by
  rintro b ⟨ad, ha, rfl⟩
  rcases h.2 with ⟨e1, _⟩ | ⟨g, cap, cur, e1, hb, hg, _⟩
  · cases s; simp only [Sl.v, Value.slice.injEq] at e1 ha; rw [e1.1] at ha; cases ha
  · cases s
    simp only [Sl.v, Value.slice.injEq] at e1 ha
    rw [e1.1] at ha
    cases ha
    exact ⟨cur, hg⟩
theorem Owns.apart {H : Heap} {base base' : Nat} {e e' : TypeId} {size size' : Nat} {s s' : Sl} {xs xs' : List Value} (h : Owns H base e size s xs) (k : Owns H base' e' size' s' xs') (hne : e ≠ e') : ∀ b, ownB s b → ¬ ownB s' b := by
  intro b h1 h2
  obtain ⟨c1, q1⟩ := h.obj b h1
  obtain ⟨c2, q2⟩ := k.obj b h2
  rw [q1] at q2
  simp at q2
  exact hne q2.2
theorem Owns.nil' {H : Heap} {base : Nat} {e : TypeId} {size : Nat} {s : Sl} {xs : List Value} (h : Owns H base e size s xs) (ha : s.a = none) : s.n = 0 := by
  rcases h.2 with ⟨_, e2⟩ | ⟨g, cap, cur, e1, _⟩
  · exact e2
  · cases s; simp only [Sl.v, Value.slice.injEq] at e1 ha; rw [e1.1] at ha; cases ha

structure RowsOwn (H : Heap) (base : Nat) (s : Sl) (rs : List Sl) (ls : List (List Int)) : Prop where
  out : Owns H base ty_sl_uint64 1 s (rs.map Sl.v)
  len : rs.length = ls.length
  row : ∀ (i : Nat) (r : Sl) (l : List Int), rs[i]? = some r → ls[i]? = some l → Owns H base ty_uint64 1 r (l.map (Value.int .u64))
  apart : ∀ (i j : Nat) (r r' : Sl), i ≠ j → rs[i]? = some r → rs[j]? = some r' → ∀ b, ownB r b → ¬ ownB r' b

theorem RowsOwn.nil (H : Heap) (base : Nat) : RowsOwn H base (Sl.mk none 0 0) [] [] := ⟨Owns.nil _ _ _ _, rfl, by simp, by simp⟩
theorem RowsOwn.n {H : Heap} {base : Nat} {s : Sl} {rs : List Sl} {ls : List (List Int)} (h : RowsOwn H base s rs ls) : s.n = ls.length := by
  have h1 := h.out.1; have h2 := h.len; simp at h1; omega
theorem RowsOwn.mod {F : Nat → Prop} {H H' : Heap} {base : Nat} {s : Sl} {rs : List Sl} {ls : List (List Int)} (h : RowsOwn H base s rs ls) (hm : Mod F H H') (hs : ∀ b, ownB s b → ¬ F b) (hr : ∀ r ∈ rs, ∀ b, ownB r b → ¬ F b) : RowsOwn H' base s rs ls :=
  ⟨h.out.mod hm hs, h.len, fun i r l h1 h2 => (h.row i r l h1 h2).mod hm (hr r (List.mem_of_getElem? h1)), h.apart⟩
theorem RowsOwn.ext {H H' : Heap} {base : Nat} {s : Sl} {rs : List Sl} {ls : List (List Int)} (h : RowsOwn H base s rs ls) (hm : Ext H H') : RowsOwn H' base s rs ls := h.mod hm (fun _ _ => id) (fun _ _ _ _ => id)
theorem RowsOwn.rowAt {H : Heap} {base : Nat} {s : Sl} {rs : List Sl} {ls : List (List Int)} (h : RowsOwn H base s rs ls) {r : Sl} (hr : r ∈ rs) : ∃ l : List Int, Owns H base ty_uint64 1 r (l.map (Value.int .u64)) := by
  obtain ⟨i, hi⟩ := List.mem_iff_getElem?.1 hr
  have hlt : i < ls.length := by rw [← h.len]; exact (List.getElem?_eq_some_iff.1 hi).1
  exact ⟨_, h.row i r _ hi (List.getElem?_eq_getElem hlt)⟩
theorem RowsOwn.block {H : Heap} {base : Nat} {s : Sl} {rs : List Sl} {ls : List (List Int)} (h : RowsOwn H base s rs ls) : (∀ b, ownB s b → base ≤ b ∧ b < H.size) ∧ ∀ r ∈ rs, ∀ b, ownB r b → base ≤ b ∧ b < H.size :=
  ⟨h.out.block, fun r hr => by obtain ⟨l, hl⟩ := h.rowAt hr; exact hl.block⟩
theorem RowsOwn.rows {H : Heap} {base : Nat} {s : Sl} {rs : List Sl} {ls : List (List Int)} (h : RowsOwn H base s rs ls) : Rows H s ls := by
  refine ⟨h.n, fun i hi => ?_⟩
  have hir : i < rs.length := by rw [h.len]; exact hi
  obtain ⟨ad, ha, hc⟩ := h.out.reads.at (i := i) (by simpa using hir)
  exact ⟨ad, rs[i], ha, by simpa using hc, (h.row i _ _ (List.getElem?_eq_getElem hir) (List.getElem?_eq_getElem hi)).ints⟩

/-- One row more. -/
theorem RowsOwn.push {ty : TypeId} {H : Heap} {base : Nat} {s : Sl} {rs : List Sl} {ls : List (List Int)} {r : Sl} {l : List Int} {K : Sl → Heap → Prop} (h : RowsOwn H base s rs ls)
    (hr : Owns H base ty_uint64 1 r (l.map (Value.int .u64))) (hap : ∀ r' ∈ rs, ∀ b, ownB r b → ¬ ownB r' b) (hn : s.n + 1 ≤ 1099511627776) (hbase : base ≤ H.size)
    (hK : ∀ s' H', s'.n = s.n + 1 → RowsOwn H' base s' (rs ++ [r]) (ls ++ [l]) → Mod (ownB s) H H' → K s' H') :
    newC H #[r.v] ty_sl_uint64 fun p H1 => doT cSl Try.prog (Builtin.append_ #[ty_sl_sl_uint64, ty_sl_sl_uint64] ty #[s.v, .slice (some p) 1 1]) H1 K := by
  refine elRow.push (base := base) h.out rfl hn (by omega) hbase ?_
  intro s' H' n1 o1 m1 b1 _
  refine hK s' H' n1 ⟨by simpa using o1, by simp [h.len], ?_, ?_⟩ m1
  · intro i x y hx hy
    rw [List.getElem?_append] at hx hy
    have hl := h.len
    split at hx
    · rename_i hlt
      rw [if_pos (by omega)] at hy
      exact (h.row i x y hx hy).mod m1 (fun b hb hb' => (h.row i x y hx hy).apart h.out (by decide) b hb hb')
    · rename_i hge
      rw [if_neg (by omega)] at hy
      have e1 : i - rs.length = 0 := by
        have := (List.getElem?_eq_some_iff.1 hx).1; simp at this; omega
      have e2 : i - ls.length = 0 := by omega
      rw [e1] at hx; rw [e2] at hy
      simp at hx hy
      subst hx; subst hy
      exact hr.mod m1 (fun b hb hb' => hr.apart h.out (by decide) b hb hb')
  · intro i j x y hij hx hy b hb
    have key : ∀ (i : Nat) (x : Sl), (rs ++ [r])[i]? = some x → (i < rs.length ∧ rs[i]? = some x) ∨ (i = rs.length ∧ x = r) := by
      intro i x hx
      rw [List.getElem?_append] at hx
      split at hx
      · rename_i hlt; exact .inl ⟨hlt, hx⟩
      · rename_i hge
        have e1 : i - rs.length = 0 := by
          have := (List.getElem?_eq_some_iff.1 hx).1; simp at this; omega
        rw [e1] at hx; simp at hx
        exact .inr ⟨by omega, hx.symm⟩
    rcases key i x hx with ⟨h1, h2⟩ | ⟨h1, h2⟩ <;> rcases key j y hy with ⟨h3, h4⟩ | ⟨h3, h4⟩
    · exact h.apart i j x y hij h2 h4 b hb
    · subst h4; exact fun hb' => hap x (List.mem_of_getElem? h2) b hb' hb
    · subst h2; exact hap y (List.mem_of_getElem? h4) b hb
    · omega

/-! ### The document's reading -/

theorem rowsOf_succ (b : List Int) (w : Int) (m : Nat) : rowsOf b w (m + 1) = rowsOf b w m ++ [rowOf (chunkOf b (sizeL w).toNat m) w.toNat] := by
  simp [rowsOf, List.range_succ]

theorem tmod_zero {a n : Nat} (_ : 0 < n) (h : Int.tmod (a : Int) (n : Int) = 0) : a = a / n * n := by
  rw [← Int.ofNat_tmod] at h
  have h1 : a % n = 0 := by exact_mod_cast h
  have := Nat.div_add_mod a n
  rw [h1, Nat.mul_comm] at this
  omega

theorem ints_get {k : IntKind} {H : Heap} {s : Sl} {l : List Int} (h : Ints k H s l) {i : Int} {j : Nat} (e : i = (j : Int)) (h1 : j < l.length) {K : Addr → Int → Prop} (hK : ∀ ad, s.a = some ad → K ad (l.getD j 0)) :
    optK s.a fun a => (0 ≤ i ∧ i < (s.n : Int)) ∧ ld (cInt k) H (a.add (i.toNat * 1)) fun x => K a x := by
  subst e
  exact h.ld (by omega) (by omega) (by simpa using hK)

theorem chunkOf_getD {b : List Int} {n k j : Nat} (hj : j < n) : (chunkOf b n k).getD j 0 = b.getD (k * n + j) 0 := by
  unfold chunkOf
  simp only [List.getD, List.getElem?_take, List.getElem?_drop]
  rw [if_pos hj]
theorem chunkOf_length {b : List Int} {n k m : Nat} (hb : b.length = m * n) (hk : k < m) : (chunkOf b n k).length = n := by
  unfold chunkOf
  have := Nat.mul_le_mul_right n (Nat.succ_le_of_lt hk)
  rw [Nat.succ_mul] at this
  simp; omega

theorem getOK_bad {b : List Int} {w : Int} {k : Nat} (hw : w = 0) (hk : k < b.length) (h : b.getD k 0 ≠ 0) : getOK b w = false := by
  unfold getOK
  have : (b.all fun x => decide (x = 0)) = false := by
    rw [List.all_eq_false]
    refine ⟨b[k], List.getElem_mem _, ?_⟩
    simp [List.getD, List.getElem?_eq_getElem hk] at h
    simpa using h
  rw [this]
  simp [hw]

theorem getOK_good {b : List Int} {w : Int} (h1 : sizeL w ≠ 0) (h2 : Int.tmod (b.length : Int) (sizeL w) = 0) (h3 : w = 0 → ∀ k, k < b.length → b.getD k 0 = 0) : getOK b w = true := by
  unfold getOK
  simp only [Bool.and_eq_true, decide_eq_true_eq, Bool.or_eq_true, List.all_eq_true]
  refine ⟨⟨h1, h2⟩, ?_⟩
  by_cases hw : w = 0
  · right
    intro x hx
    obtain ⟨k, hk, e⟩ := List.mem_iff_getElem.1 hx
    have := h3 hw k hk
    simp [List.getD, List.getElem?_eq_getElem hk] at this
    rw [← e]; exact this
  · exact .inl hw

theorem refGet_ok {p : Sl} {b : List Int} {w : Int} {H : Heap} {K : (Sl × Int) → Heap → Prop} (hp : Ints .u8 H p b) (hlen : b.length ≤ 1000000)
    (hK : ∀ s rs H', RowsOwn H' H.size s rs (getL b w) → Ext H H' → K (s, getE b w) H') : fathomref06_Get.sp p w H K := by
  refine fathomref06_Get.of ?_
  unfold fathomref06_Get.vc
  have pn := hp.len
  have bad : ∀ H', Ext H H' → getOK b w = false → K (Sl.mk none 0 0, 60) H' := by
    intro H' e hf
    have := hK (Sl.mk none 0 0) [] H' (by unfold getL; rw [hf]; exact RowsOwn.nil _ _) e
    unfold getE at this; rw [hf] at this; exact this
  refine refSize_ok ?_
  refine br_mk (fun h => ?_) (fun h => ?_)
  · have h' : sizeL w = 0 := by simpa using h
    exact bad _ (Mod.refl _ _) (by unfold getOK; simp [h'])
  · have h' : sizeL w ≠ 0 := by simpa using h
    have hsz := sizeL_cases w
    refine ⟨h', br_mk (fun h2 => ?_) (fun h2 => ?_)⟩
    · have h2' : ¬ Int.tmod (b.length : Int) (sizeL w) = 0 := by rw [pn] at h2; simpa using h2
      exact bad _ (Mod.refl _ _) (by unfold getOK; simp [h2'])
    · have h2' : Int.tmod (b.length : Int) (sizeL w) = 0 := by rw [pn] at h2; simpa using h2
      obtain ⟨n, hn⟩ : ∃ n : Nat, sizeL w = (n : Int) := ⟨(sizeL w).toNat, by omega⟩
      have hn0 : 0 < n := by omega
      have hmul : b.length = b.length / n * n := tmod_zero hn0 (by rw [← hn]; exact h2')
      have hw0 : 0 ≤ w ∧ w ≤ 16 := by 
        unfold sizeL at h'
        split at h'
        · exact absurd rfl h'
        · omega
      have hnw : w ≠ 0 → n = 8 * w.toNat := by
        intro hw; unfold sizeL at hn; rw [if_neg (by omega), if_neg hw] at hn; omega
      refine loop_upto (b.length / n) (fun k z H' => z.2 = ((k * n : Nat) : Int) ∧ z.1.n = k ∧ (w = 0 → ∀ j, j < k → b.getD j 0 = 0) ∧ (∃ rs, RowsOwn H' H.size z.1 rs (rowsOf b w k)) ∧ Ext H H') ⟨by simp, rfl, fun _ j hj => by omega, ⟨[], RowsOwn.nil _ _⟩, Mod.refl _ _⟩ ?_
      rintro k ⟨s, i⟩ H2 next hk ⟨hi, hsn, hz, ⟨rs, r2⟩, e2⟩ hnext
      simp only at hi hsn r2 ⊢
      have hbl : k < b.length / n → k * n + n ≤ b.length := by
        intro hlt
        have := Nat.mul_le_mul_right n (Nat.succ_le_of_lt hlt)
        rw [Nat.succ_mul] at this; omega
      refine br_mk (fun h3 => ?_) (fun h3 => ?_)
      · have hlt : k < b.length / n := by
          rcases Nat.lt_or_ge k (b.length / n) with q | q
          · exact q
          · have e : k = b.length / n := by omega
            simp at h3; rw [hi, pn] at h3; rw [e] at h3; omega
        have hb2 := hbl hlt
        have hk1 : k < b.length := by have := Nat.le_mul_of_pos_right k hn0; omega
        refine ⟨fun _ H' => H2 = H' ∧ (w = 0 → b.getD k 0 = 0), ?_, ?_⟩
        · refine br_mk (fun h4 => ?_) (fun h4 => ⟨rfl, fun hw => by simp at h4; exact absurd hw h4⟩)
          have hw : w = 0 := by simpa using h4
          have hn1 : n = 1 := by unfold sizeL at hn; rw [hw] at hn; simp at hn; omega
          refine ints_get (hp.ext e2) (j := k) (by rw [hi, hn1]; simp) hk1 fun ad q => ?_
          refine br_mk (fun h5 => ?_) (fun h5 => ⟨rfl, fun _ => by simpa using h5⟩)
          exact bad _ e2 (getOK_bad hw hk1 (by simpa using h5))
        · rintro _ H3 ⟨rfl, hzero⟩
          refine loop_upto w.toNat (fun j z H' => z.2 = (j : Int) ∧ z.1.n = j ∧ Owns H' H.size ty_uint64 1 z.1 (((rowOf (chunkOf b n k) w.toNat).take j).map (Value.int .u64)) ∧ (∀ c, ownB z.1 c → H2.size ≤ c) ∧ Ext H2 H') ⟨rfl, rfl, Owns.nil _ _ _ _, (by rintro c ⟨ad, q, _⟩; cases q), Mod.refl _ _⟩ ?_
          rintro j ⟨s4, i4⟩ H4 next4 hj ⟨hi4, hn4, o4, b4, e4⟩ hnext4
          simp only at hi4 hn4 o4 b4 ⊢
          subst hi4
          refine br_mk (fun h5 => ?_) (fun h5 => ?_)
          · have hjw : j < w.toNat := by simp at h5; omega
            have hw : w ≠ 0 := by omega
            have hn8 := hnw hw
            refine loop_upto 8 (fun q z H' => z.2 = (q : Int) ∧ z.1 = wordOf (((chunkOf b n k).drop (8 * j)).take q) ∧ H' = H4) ⟨rfl, by simp [wordOf], rfl⟩ ?_
            rintro q ⟨x5, i5⟩ H5 next5 hq ⟨hi5, hx5, rfl⟩ hnext5
            simp only at hi5 hx5 ⊢
            subst hi5
            have hcl := chunkOf_length hmul hlt
            refine br_mk (fun h6 => ?_) (fun h6 => ?_)
            · have hq8 : q < 8 := by simp at h6; omega
              have eidx : IntKind.i64.wrap (IntKind.i64.wrap (i + IntKind.i64.wrap (8 * (j : Int))) + (q : Int)) = ((k * n + (8 * j + q) : Nat) : Int) := by
                rw [wrap64 (x := 8 * (j : Int)) (by omega) (by omega), wrap64 (x := i + _) (by omega) (by omega), wrap64 (by omega) (by omega), hi]
                push_cast; omega
              refine ints_get (hp.ext (e2.trans e4)) eidx (by omega) fun ad q1 => ?_
              refine hnext5 hq8 _ _ ⟨by rw [succ64 q (by omega)], ?_, rfl⟩
              simp only
              have hlt2 : q < ((chunkOf b n k).drop (8 * j)).length := by simp; omega
              rw [List.take_succ_eq_append_getElem hlt2, hx5]
              unfold wordOf
              rw [List.foldl_append, List.foldl_cons, List.foldl_nil]
              show wstep _ _ = wstep _ _
              congr 1
              rw [List.getElem_drop, ← chunkOf_getD (by omega)]
              simp [List.getD, List.getElem?_eq_getElem (show 8 * j + q < (chunkOf b n k).length by omega)]
            · have hq8 : q = 8 := by simp at h6; omega
              subst hq8
              refine elU64.push (base := H.size) o4 rfl (by omega) (by omega) (e2.trans e4).size ?_
              intro s6 H6 n6 o6 m6 b6 _
              refine hnext4 hjw _ _ ⟨by rw [succ64 j (by omega)], by simp only; omega, ?_, fun c hc => ?_, (e4.mod (F := ownB s4).trans m6).ext b4⟩
              · simp only
                rw [List.take_succ_eq_append_getElem (by rw [rowOf_length]; exact hjw), List.map_append]
                have e : (rowOf (chunkOf b n k) w.toNat)[j]'(by rw [rowOf_length]; exact hjw) = x5 := by
                  rw [hx5]; simp [rowOf]
                rw [e]
                exact o6
              · rcases b6 c hc with q1 | q1
                · exact b4 c q1
                · exact Nat.le_trans e4.size q1
          · have hjw : j = w.toNat := by simp at h5; omega
            subst hjw
            rw [List.take_of_length_le (by rw [rowOf_length]; exact Nat.le_refl _)] at o4
            have r4 := r2.ext e4
            refine r4.push o4 (fun r' hr' c hc hc' => ?_) (by omega) (e2.trans e4).size ?_
            · have h1 := (r2.block.2 r' hr' c hc').2
              have h2 := b4 c hc
              omega
            · intro s7 H7 n7 r7 m7
              refine hnext hlt _ _ ⟨?_, by simp only; omega, fun hw j hj => ?_, ⟨rs ++ [s4], ?_⟩, ((Ext.mod (F := ownB s) (e2.trans e4)).trans m7).ext (fun c hc => (r2.block.1 c hc).1)⟩
              · simp only
                rw [hn, hi, wrap64 (by omega) (by omega), Nat.succ_mul]; push_cast; rfl
              · rcases Nat.lt_or_ge j k with q | q
                · exact hz hw j q
                · have : j = k := by omega
                  rw [this]; exact hzero hw
              · simp only
                rw [rowsOf_succ, hn]
                exact r7
      · have hge : k = b.length / n := by
          rcases Nat.lt_or_ge k (b.length / n) with q | q
          · have := hbl q; simp at h3; rw [hi, pn] at h3; omega
          · omega
        have hok : getOK b w = true := getOK_good h' h2' (fun hw j hj => hz hw j (by
          have hn1 : n = 1 := by unfold sizeL at hn; rw [hw] at hn; simp at hn; omega
          rw [hge, hn1]; simpa using hj))
        have := hK s rs H2 (by unfold getL; rw [hok, if_pos rfl, hn]; simp only [Int.toNat_natCast]; rw [← hge]; exact r2) e2
        unfold getE at this; rw [hok] at this; exact this

end Go.Proofs.Ytndnjggcpdkbiaa
