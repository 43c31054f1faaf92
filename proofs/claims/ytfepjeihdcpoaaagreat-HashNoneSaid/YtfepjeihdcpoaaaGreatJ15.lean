/-
  Rows: orders, beginnings, lent rows, room.
-/
import Derived.Test.YtfepjeihdcpoaaaGreatRwa
import Derived.Test.YtfepjeihdcpoaaaGreatFxj
namespace Go.Proofs.YtfepjeihdcpoaaaGreat

theorem elU64 : El Tryz.prog ty_sl_uint64 ty_uint64 8 (.int .u64 0) := El_of (zb := isInt0 .u64) isInt0_eq rfl (by kernel_rfl)
theorem elRow : El Tryz.prog ty_sl_sl_uint64 ty_sl_uint64 24 (.slice none 0 0) := El_of (zb := isSl0) isSl0_eq rfl (by kernel_rfl)

/-! ### Orders -/

theorem slicesEqual_ok {a b : Sl} {la lb : List Int} {H : Heap} {K : Bool → Heap → Prop} (ha : Ints .u64 H a la) (hb : Ints .u64 H b lb) (hlen : la.length < 1099511627776) (hK : K (decide (la = lb)) H) : slices_Equal_sl_uint64_uint64.sp a b H K := by
  refine slices_Equal_sl_uint64_uint64.of ?_
  have := SameRow_ok ha hb hlen hK
  unfold slices_Equal_sl_uint64_uint64.vc
  have la1 := ha.len
  have lb1 := hb.len
  refine br_mk (fun h => ?_) (fun h => ?_)
  · have h1 : la ≠ lb := by intro e; subst e; simp [la1, lb1] at h
    simpa [h1] using hK
  · have h' : (a.n : Int) = (b.n : Int) := by simpa using h
    have hl : la.length = lb.length := by omega
    refine loop_upto la.length (fun k i H' => i = (k : Int) ∧ H' = H ∧ la.take k = lb.take k) ⟨rfl, rfl, by simp⟩ ?_
    rintro k i H' next hk ⟨rfl, rfl, ht⟩ hnext
    refine br_mk (fun h1 => ?_) (fun h1 => ?_)
    · have hlt : k < la.length := by simp at h1; omega
      refine ha.ld (by omega) (by omega) fun ad1 e1 => ?_
      refine hb.ld (by omega) (by omega) fun ad2 e2 => ?_
      simp only [Int.toNat_natCast]
      refine br_mk (fun h2 => ?_) (fun h2 => ?_)
      · have h3 : la ≠ lb := by intro e; subst e; simp at h2
        simpa [h3] using hK
      · refine hnext hlt _ _ ⟨by rw [succ64 k (by omega)], rfl, ?_⟩
        rw [List.take_succ_eq_append_getElem hlt, List.take_succ_eq_append_getElem (by omega : k < lb.length), ht]
        have : la[k]'hlt = lb[k]'(by omega) := by simpa [List.getD, List.getElem?_eq_getElem hlt, List.getElem?_eq_getElem (by omega : k < lb.length)] using h2
        rw [this]
    · have hge : k = la.length := by simp at h1; omega
      subst hge
      have h2 : la = lb := by rw [List.take_of_length_le (Nat.le_refl _), List.take_of_length_le (by omega)] at ht; exact ht
      simpa [h2] using hK

/-! ### Lent rows -/

/-! ### Room -/

def sizeL (w : Int) : Int := if w < 0 ∨ w > 16 then 0 else if w = 0 then 1 else 8 * w

theorem rowSize_ok {w : Int} {H : Heap} {K : Int → Heap → Prop} (hK : K (sizeL w) H) : row_size.sp w H K := by
  refine row_size.of ?_
  unfold row_size.vc
  unfold sizeL at hK
  refine br_mk (fun h => ?_) (fun h => ?_)
  · have h' : w < 0 := by simpa using h
    rw [if_pos (.inl h')] at hK
    simpa [h', br] using hK
  · have h' : ¬ w < 0 := by simpa using h
    refine br_mk (fun h2 => ?_) (fun h2 => ?_)
    · rw [if_pos (.inr (by simpa using h2))] at hK; exact hK
    · have h2' : ¬ w > 16 := by simpa using h2
      rw [if_neg (by omega)] at hK
      refine br_mk (fun h3 => ?_) (fun h3 => ?_)
      · rw [if_pos (by simpa using h3)] at hK; exact hK
      · rw [if_neg (by simpa using h3)] at hK
        rw [wrap64 (by omega) (by omega)]; exact hK

def roomL (w : Int) : Int := if sizeL w = 0 then 0 else Int.tdiv 504 (sizeL w)
theorem sizeL_cases (w : Int) : sizeL w = 0 ∨ (0 < sizeL w ∧ sizeL w ≤ 128) := by
  unfold sizeL; split
  · simp
  · split
    · simp
    · right; omega
theorem roomL_bound (w : Int) : IntKind.i64.wrap (Int.tdiv 504 (sizeL w)) = Int.tdiv 504 (sizeL w) := by
  have h0 := Int.tdiv_nonneg (a := 504) (b := sizeL w) (by omega) (by rcases sizeL_cases w with h | h <;> omega)
  have h1 : Int.tdiv 504 (sizeL w) ≤ 504 := by
    rcases sizeL_cases w with h | h
    · rw [h]; simp
    · exact Int.tdiv_le_self _ (by omega)
  exact wrap64 (by omega) (by omega)
theorem rowRoom_ok {w : Int} {H : Heap} {K : Int → Heap → Prop} (hK : K (roomL w) H) : row_Room.sp w H K := by
  refine row_Room.of ?_
  unfold row_Room.vc
  refine rowSize_ok ?_
  unfold roomL at hK
  have hc := sizeL_cases w
  refine br_mk (fun h => ?_) (fun h => ?_)
  · have h' : sizeL w > 0 := by simpa using h
    rw [if_neg (by omega)] at hK
    refine ⟨by omega, ?_⟩
    rw [roomL_bound]; exact hK
  · have h' : ¬ sizeL w > 0 := by simpa using h
    rw [if_pos (by omega)] at hK; exact hK
end Go.Proofs.YtfepjeihdcpoaaaGreat

/-
  Rows: columns taken out, lists of rows, bytes of rows.
-/
namespace Go.Proofs.YtfepjeihdcpoaaaGreat

/-! ### Aggregates in variables -/

/-! ### Columns -/

def turnOK (l cols : List Int) : Bool := cols.all fun c => decide (0 ≤ c) && decide (c < (l.length : Int))
def turnL (l cols : List Int) : List Int := if turnOK l cols then cols.map fun c => l.getD c.toNat 0 else []
def turnE (l cols : List Int) : Int := if turnOK l cols then 0 else 2

theorem turnOK_at {l cols : List Int} {k : Nat} (hk : k < cols.length) (hb : ¬ (0 ≤ cols.getD k 0 ∧ cols.getD k 0 < (l.length : Int))) : turnOK l cols = false := by
  unfold turnOK
  rw [List.all_eq_false]
  refine ⟨cols[k], List.getElem_mem _, ?_⟩
  simp [List.getD, List.getElem?_eq_getElem hk] at hb
  simpa using hb

theorem turnOK_take {l cols : List Int} {k : Nat} (hk : k < cols.length) (h : turnOK l (cols.take k) = true) (h1 : 0 ≤ cols.getD k 0) (h2 : cols.getD k 0 < (l.length : Int)) : turnOK l (cols.take (k + 1)) = true := by
  unfold turnOK at h ⊢
  rw [List.take_succ_eq_append_getElem hk, List.all_append, h]
  simp [List.getD, List.getElem?_eq_getElem hk] at h1 h2
  simp [h1, h2]

theorem take_map_succ {cols : List Int} {k : Nat} (f : Int → Value) (hk : k < cols.length) : (cols.take (k + 1)).map f = (cols.take k).map f ++ [f (cols.getD k 0)] := by
  rw [List.take_succ_eq_append_getElem hk, List.map_append]
  simp only [List.map_cons, List.map_nil, List.getD, List.getElem?_eq_getElem hk, Option.getD_some]

theorem rowTurn_ok {l cols : Sl} {ll lc : List Int} {H : Heap} {K : (Sl × Int) → Heap → Prop} (hl : Ints .u64 H l ll) (hc : Ints .i64 H cols lc) (hlen : lc.length ≤ 1000000)
    (hK : ∀ s H', Owns H' H.size ty_uint64 1 s ((turnL ll lc).map (Value.int .u64)) → Ext H H' → K (s, turnE ll lc) H') : row_Turn.sp l cols H K := by
  refine row_Turn.of ?_
  unfold row_Turn.vc
  have ln := hl.len
  have cn := hc.len
  refine elU64.make (base := H.size) (by omega) (by omega) (by omega) (by omega) (Nat.le_refl _) ?_
  intro out H1 n1 o1 e1 b1 _
  refine loop_upto lc.length (fun k z H' => z.2 = (k : Int) ∧ z.1.n = k ∧ turnOK ll (lc.take k) = true ∧ Owns H' H.size ty_uint64 1 z.1 ((lc.take k).map fun c => Value.int .u64 (ll.getD c.toNat 0)) ∧ Ext H H') ⟨rfl, by simpa using n1, by simp [turnOK], by simpa using o1, e1⟩ ?_
  rintro k ⟨s, i⟩ H2 next hk ⟨hi, hn, hok, o2, e2⟩ hnext
  simp only at hi hn o2 ⊢
  subst hi
  refine br_mk (fun h => ?_) (fun h => ?_)
  · have hlt : k < lc.length := by simp at h; omega
    refine (hc.ext e2).ld (by omega) (by omega) fun ad1 q1 => ?_
    simp only [Int.toNat_natCast]
    refine br_mk (fun h2 => ?_) (fun h2 => ?_)
    · have h2' : ¬ (0 ≤ lc.getD k 0 ∧ lc.getD k 0 < (ll.length : Int)) := by simp at h2 ⊢; omega
      have hf := turnOK_at hlt h2'
      have := hK (Sl.mk none 0 0) H2 (by unfold turnL; rw [hf]; exact Owns.nil _ _ _ _) e2
      unfold turnE at this
      rw [hf] at this
      exact this
    · have h2' : 0 ≤ lc.getD k 0 ∧ lc.getD k 0 < (ll.length : Int) := by simp at h2 ⊢; omega
      refine (hl.ext e2).ld h2'.1 h2'.2 fun ad2 q2 => ?_
      refine elU64.push (base := H.size) o2 rfl (by omega) (by omega) e2.size ?_
      intro s' H3 n3 o3 m3 b3 _
      refine hnext hlt _ _ ⟨by rw [succ64 k (by omega)], by simp only; omega, turnOK_take hlt hok h2'.1 h2'.2, ?_, (e2.mod (F := ownB s).trans m3).ext (fun b hb => (o2.block b hb).1)⟩
      simp only
      rw [take_map_succ (fun c => Value.int .u64 (ll.getD c.toNat 0)) hlt]; exact o3
  · have hge : k = lc.length := by simp at h; omega
    subst hge
    rw [List.take_of_length_le (Nat.le_refl _)] at hok o2
    have := hK s H2 (by unfold turnL; rw [hok, if_pos rfl, List.map_map]; exact o2) e2
    unfold turnE at this
    rw [hok] at this
    exact this

/-! ### Lists of rows -/

structure Rows (H : Heap) (s : Sl) (ls : List (List Int)) : Prop where
  len : s.n = ls.length
  at' : ∀ i (h : i < ls.length), ∃ ad r, s.a = some ad ∧ hCell H (ad.add i) = some (Sl.v r) ∧ Ints .u64 H r ls[i]

theorem Rows.ld {H : Heap} {s : Sl} {ls : List (List Int)} (h : Rows H s ls) {i : Nat} (hi : i < ls.length) {K : Addr → Sl → Prop} (hK : ∀ ad r, s.a = some ad → Ints .u64 H r (ls[i]'hi) → K ad r) :
    optK s.a fun a => (0 ≤ (i : Int) ∧ (i : Int) < (s.n : Int)) ∧ ld cSl H (a.add ((i : Int).toNat * 1)) fun x => K a x := by
  obtain ⟨ad, r, e, hc, hr⟩ := h.at' i hi
  refine optK_mk ad e ⟨⟨by omega, by rw [h.len]; omega⟩, r, ?_, hK ad r e hr⟩
  simp only [Int.toNat_natCast, Nat.mul_one]
  exact hc

/-! ### A row's bytes -/

end Go.Proofs.YtfepjeihdcpoaaaGreat

/-
  Rows: bytes read as rows.
-/
namespace Go.Proofs.YtfepjeihdcpoaaaGreat

/-! ### What is read -/

/-! ### Lists of rows of one's own -/

structure RowsOwn (H : Heap) (base : Nat) (s : Sl) (rs : List Sl) (ls : List (List Int)) : Prop where
  out : Owns H base ty_sl_uint64 1 s (rs.map Sl.v)
  len : rs.length = ls.length
  row : ∀ (i : Nat) (r : Sl) (l : List Int), rs[i]? = some r → ls[i]? = some l → Owns H base ty_uint64 1 r (l.map (Value.int .u64))
  apart : ∀ (i j : Nat) (r r' : Sl), i ≠ j → rs[i]? = some r → rs[j]? = some r' → ∀ b, ownB r b → ¬ ownB r' b

theorem RowsOwn.nil (H : Heap) (base : Nat) : RowsOwn H base (Sl.mk none 0 0) [] [] := ⟨Owns.nil _ _ _ _, rfl, by simp, by simp⟩
theorem RowsOwn.n {H : Heap} {base : Nat} {s : Sl} {rs : List Sl} {ls : List (List Int)} (h : RowsOwn H base s rs ls) : s.n = ls.length := by
  have h1 := h.out.1; have h2 := h.len; simp at h1; omega
theorem RowsOwn.mod {F : Nat → Prop} {H H' : Heap} {base : Nat} {s : Sl} {rs : List Sl} {ls : List (List Int)} (h : RowsOwn H base s rs ls) (hm : Mod F H H') (hs : ∀ b, ownB s b → ¬ F b) (hr : ∀ r ∈ rs, ∀ b, ownB r b → ¬ F b) : RowsOwn H' base s rs ls :=
  ⟨h.out.mod hm hs, h.len, fun i r l h1 h2 => (h.row i r l h1 h2).mod hm (hr r (List.mem_of_getElem? h1)), h.apart⟩
theorem RowsOwn.ext {H H' : Heap} {base : Nat} {s : Sl} {rs : List Sl} {ls : List (List Int)} (h : RowsOwn H base s rs ls) (hm : Ext H H') : RowsOwn H' base s rs ls := h.mod hm (fun _ _ => id) (fun _ _ _ _ => id)
theorem RowsOwn.rowAt {H : Heap} {base : Nat} {s : Sl} {rs : List Sl} {ls : List (List Int)} (h : RowsOwn H base s rs ls) {r : Sl} (hr : r ∈ rs) : ∃ l : List Int, Owns H base ty_uint64 1 r (l.map (Value.int .u64)) := by
  obtain ⟨i, hi⟩ := List.mem_iff_getElem?.1 hr
  have hlt : i < ls.length := by rw [← h.len]; exact (List.getElem?_eq_some_iff.1 hi).1
  exact ⟨_, h.row i r _ hi (List.getElem?_eq_getElem hlt)⟩
theorem RowsOwn.block {H : Heap} {base : Nat} {s : Sl} {rs : List Sl} {ls : List (List Int)} (h : RowsOwn H base s rs ls) : (∀ b, ownB s b → base ≤ b ∧ b < H.size) ∧ ∀ r ∈ rs, ∀ b, ownB r b → base ≤ b ∧ b < H.size :=
  ⟨h.out.block, fun r hr => by obtain ⟨l, hl⟩ := h.rowAt hr; exact hl.block⟩
/-- One row more. -/
theorem RowsOwn.push {ty : TypeId} {H : Heap} {base : Nat} {s : Sl} {rs : List Sl} {ls : List (List Int)} {r : Sl} {l : List Int} {K : Sl → Heap → Prop} (h : RowsOwn H base s rs ls)
    (hr : Owns H base ty_uint64 1 r (l.map (Value.int .u64))) (hap : ∀ r' ∈ rs, ∀ b, ownB r b → ¬ ownB r' b) (hn : s.n + 1 ≤ 1099511627776) (hbase : base ≤ H.size)
    (hK : ∀ s' H', s'.n = s.n + 1 → RowsOwn H' base s' (rs ++ [r]) (ls ++ [l]) → Mod (ownB s) H H' → K s' H') :
    newC H #[r.v] ty_sl_uint64 fun p H1 => doT cSl Tryz.prog (Builtin.append_ #[ty_sl_sl_uint64, ty_sl_sl_uint64] ty #[s.v, .slice (some p) 1 1]) H1 K := by
  refine elRow.push (base := base) h.out rfl hn (by omega) hbase ?_
  intro s' H' n1 o1 m1 b1 _
  refine hK s' H' n1 ⟨by simpa using o1, by simp [h.len], ?_, ?_⟩ m1
  · intro i x y hx hy
    rw [List.getElem?_append] at hx hy
    have hl := h.len
    split at hx
    · rename_i hlt
      rw [if_pos (by omega)] at hy
      exact (h.row i x y hx hy).mod m1 (fun b hb hb' => (h.row i x y hx hy).apart h.out (by decide) b hb hb')
    · rename_i hge
      rw [if_neg (by omega)] at hy
      have e1 : i - rs.length = 0 := by
        have := (List.getElem?_eq_some_iff.1 hx).1; simp at this; omega
      have e2 : i - ls.length = 0 := by omega
      rw [e1] at hx; rw [e2] at hy
      simp at hx hy
      subst hx; subst hy
      exact hr.mod m1 (fun b hb hb' => hr.apart h.out (by decide) b hb hb')
  · intro i j x y hij hx hy b hb
    have key : ∀ (i : Nat) (x : Sl), (rs ++ [r])[i]? = some x → (i < rs.length ∧ rs[i]? = some x) ∨ (i = rs.length ∧ x = r) := by
      intro i x hx
      rw [List.getElem?_append] at hx
      split at hx
      · rename_i hlt; exact .inl ⟨hlt, hx⟩
      · rename_i hge
        have e1 : i - rs.length = 0 := by
          have := (List.getElem?_eq_some_iff.1 hx).1; simp at this; omega
        rw [e1] at hx; simp at hx
        exact .inr ⟨by omega, hx.symm⟩
    rcases key i x hx with ⟨h1, h2⟩ | ⟨h1, h2⟩ <;> rcases key j y hy with ⟨h3, h4⟩ | ⟨h3, h4⟩
    · exact h.apart i j x y hij h2 h4 b hb
    · subst h4; exact fun hb' => hap x (List.mem_of_getElem? h2) b hb' hb
    · subst h2; exact hap y (List.mem_of_getElem? h4) b hb
    · omega

/-! ### The document's reading -/

end Go.Proofs.YtfepjeihdcpoaaaGreat
