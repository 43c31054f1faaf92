/-
  Rows: the program's reading, over the library's chunks.
-/
import Derived.Test.YtndnjggcpdkbiaaRwd
namespace Go.Proofs.Ytndnjggcpdkbiaa

/-- A variable of one cell, with its type. -/
structure VarT (H : Heap) (p : Addr) (t : TypeId) (v : Value) : Prop where
  spot : p.spot = none
  off : p.off = 0
  obj : H[p.block]? = some (.cells #[v] t (0, 0))
theorem VarT.var {H : Heap} {p : Addr} {t : TypeId} {v : Value} (h : VarT H p t v) : Var H p v := ⟨h.spot, h.off, t, h.obj⟩
theorem VarT.lt {H : Heap} {p : Addr} {t : TypeId} {v : Value} (h : VarT H p t v) : p.block < H.size := h.var.lt
theorem VarT.mod {F : Nat → Prop} {H H' : Heap} {p : Addr} {t : TypeId} {v : Value} (h : VarT H p t v) (hm : Mod F H H') (hn : ¬ F p.block) : VarT H' p t v := ⟨h.spot, h.off, (hm.same _ h.lt hn).trans h.obj⟩
theorem VarT.ext {H H' : Heap} {p : Addr} {t : TypeId} {v : Value} (h : VarT H p t v) (hm : Ext H H') : VarT H' p t v := h.mod hm id
theorem VarT.ld {c : Cod} {H : Heap} {p : Addr} {t : TypeId} {x : c.α} {K : c.α → Prop} (h : VarT H p t (c.enc x)) (hK : K x) : Go.Proofs.Ytndnjggcpdkbiaa.ld c H p K := h.var.ld hK
theorem VarT.st {H : Heap} {p : Addr} {t : TypeId} {u v : Value} {K : Heap → Prop} (h : VarT H p t u) (hp : plainV v = true) (hK : ∀ H', VarT H' p t v → Mod (fun b => b = p.block) H H' → H'.size = H.size → K H') : Go.Proofs.Ytndnjggcpdkbiaa.st H p v K := by
  have hc := h.var.cell
  obtain ⟨b, o, sp⟩ := p
  obtain ⟨h1, h2, h3⟩ := h
  simp only at h1 h2 h3
  subst h1; subst h2
  refine ⟨hp, ⟨_, hc⟩, hFrozen_of h3, hK _ ⟨rfl, rfl, ?_⟩ (Mod.set rfl) (hSet_size _ _ _)⟩
  rw [hSet_at (a := ⟨b, 0, none⟩) h3 rfl]
  rfl
theorem newC_varT {H : Heap} {v : Value} {t : TypeId} {K : Addr → Heap → Prop} (hK : ∀ p H', p.block = H.size → H'.size = H.size + 1 → VarT H' p t v → Ext H H' → K p H') : newC H #[v] t K :=
  hK _ _ rfl (by simp) ⟨rfl, rfl, by simp⟩ (Mod.push _ _ _)

theorem Mod.setObj {F : Nat → Prop} {H : Heap} {l : Nat} {o : Obj} (h : F l) : Mod F H (H.setIfInBounds l o) :=
  ⟨by simp, fun b _ hn => Array.getElem?_setIfInBounds_ne (by intro e; subst e; exact hn h)⟩
theorem setObj_at {H : Heap} {l : Nat} {o o' : Obj} (h : H[l]? = some o) : (H.setIfInBounds l o')[l]? = some o' := by
  have := (Array.getElem?_eq_some_iff.1 h).1
  simp [this]

theorem cells_ty {H : Heap} {b : Nat} {c c' : Array Value} {t t' : TypeId} {f f' : Nat × Nat} (h : H[b]? = some (.cells c t f)) (h' : H[b]? = some (.cells c' t' f')) : t = t' := by
  rw [h] at h'; simp at h'; exact h'.2.1

theorem zc_rows : zc Try.prog ty_sl_sl_uint64 = #[.slice none 0 0] := by kernel_rfl
theorem zc_errno : zc Try.prog ty_api_Errno = #[.int .i64 0] := by kernel_rfl

/-! ### The library's chunks -/

theorem Chunk_ok {p : Sl} {n : Int} {H : Heap} {K : Value → Heap → Prop} (hn : 1 ≤ n)
    (hK : ∀ c c1 H', c.block = H.size → c1.block = H.size + 1 → H'.size = H.size + 2 → VarT H' c ty_sl_uint8 p.v → VarT H' c1 ty_int (.int .i64 n) → Ext H H' →
      K (.func (.func slices_Chunk_sl_byte_byte_c1.no) #[] #[.pointer (some c), .pointer (some c1)]) H') : slices_Chunk_sl_byte_byte.sp p n H K := by
  refine slices_Chunk_sl_byte_byte.of ?_
  unfold slices_Chunk_sl_byte_byte.vc
  refine newC_varT fun c H1 hc s1 v1 e1 => ?_
  refine newC_varT fun c1 H2 hc1 s2 v2 e2 => ?_
  refine v2.ld (c := cInt .i64) (x := n) ?_
  refine br_mk (fun h => ?_) (fun h => ?_)
  · simp at h; omega
  · exact hK c c1 H2 hc (by omega) (by omega) (v1.ext e2) v2 (e1.trans e2)

theorem Chunks_ok {l : Nat} {c c1 : Addr} {p : Sl} {n m : Nat} {H : Heap} {K : Unit → Heap → Prop} (I : Nat → Heap → Prop) (D : Heap → Prop) (hn : 0 < n) (hm : p.n = m * n) (hc : p.n ≤ p.c) (hbig : p.n ≤ 1000000) (hnb : n ≤ 1000000)
    (hI : ∀ k H', I k H' → VarT H' c ty_sl_uint8 p.v ∧ VarT H' c1 ty_int (.int .i64 (n : Int))) (h0 : I 0 H)
    (hs : ∀ k H', k < m → I k H' → YieldSpec Try.prog l #[(Sl.mk (p.a.map (·.add (k * n))) n n).v] H' fun b H'' => if b then I (k + 1) H'' else D H'')
    (hfin : ∀ H', I m H' → K () H') (hD : ∀ H', D H' → K () H') : slices_Chunk_sl_byte_byte_c1.sp l c c1 H K := by
  refine slices_Chunk_sl_byte_byte_c1.of ?_
  unfold slices_Chunk_sl_byte_byte_c1.vc
  refine loop_upto m (fun k i H' => i = ((k * n : Nat) : Int) ∧ I k H') ⟨by simp, h0⟩ ?_
  rintro k i H1 next hk ⟨rfl, hIk⟩ hnext
  obtain ⟨v, v1⟩ := hI k H1 hIk
  refine v.ld (c := cSl) (x := p) ?_
  refine br_mk (fun h => ?_) (fun h => ?_)
  · have hlt : k < m := by
      rcases Nat.lt_or_ge k m with q | q
      · exact q
      · have e : k = m := by omega
        subst e; simp at h; omega
    have hle : k * n + n ≤ p.n := by
      have := Nat.mul_le_mul_right n (Nat.succ_le_of_lt hlt)
      rw [Nat.succ_mul] at this; omega
    obtain ⟨q, hq⟩ : ∃ q, q = k * n := ⟨_, rfl⟩
    have hnx : (((k + 1) * n : Nat) : Int) = ((q + n : Nat) : Int) := by rw [hq, Nat.succ_mul]
    have hsy := hs k H1 hlt hIk
    rw [← hq] at hle hsy ⊢
    refine v1.ld (c := cInt .i64) (x := (n : Int)) ?_
    refine v.ld (c := cSl) (x := p) ?_
    refine ⟨by omega, ?_⟩
    refine v.ld (c := cSl) (x := p) ?_
    have eE : IntKind.i64.wrap ((q : Int) + (if ((p.n - (q : Int).toNat : Nat) : Int) < (n : Int) then ((p.n - (q : Int).toNat : Nat) : Int) else (n : Int))) = ((q + n : Nat) : Int) := by
      have : (if ((p.n - (q : Int).toNat : Nat) : Int) < (n : Int) then ((p.n - (q : Int).toNat : Nat) : Int) else (n : Int)) = (n : Int) := by split <;> omega
      rw [this, wrap64 (by omega) (by omega)]; omega
    rw [eE]
    refine ⟨by omega, by omega, by omega, ?_⟩
    have ea : slA p.a ((q + n : Nat) : Int).toNat (q : Int).toNat 1 = p.a.map (·.add q) := by
      unfold slA
      rw [if_neg (by simp; omega)]
      simp
    have en : ((q + n : Nat) : Int).toNat - (q : Int).toNat = n := by omega
    rw [ea, en]
    refine hsy.mono fun b H2 hb => ?_
    cases b with
    | false => exact hD H2 hb
    | true =>
      have hb' : I (k + 1) H2 := hb
      refine (hI _ _ hb').2.ld (c := cInt .i64) (x := (n : Int)) ?_
      refine hnext hlt _ _ ⟨?_, hb'⟩
      rw [hnx, wrap64 (by omega) (by omega)]; omega
  · have e : k = m := by
      rcases Nat.lt_or_ge k m with q | q
      · have := Nat.mul_le_mul_right n (Nat.succ_le_of_lt q)
        rw [Nat.succ_mul] at this; simp at h; omega
      · omega
    subst e
    exact hfin H1 hIk

theorem Ints.chunk {H : Heap} {p : Sl} {b : List Int} (hp : Ints .u8 H p b) {k n : Nat} (hl : k * n + n ≤ b.length) : Ints .u8 H (Sl.mk (p.a.map (·.add (k * n))) n n) (chunkOf b n k) := by
  refine ⟨by simp [chunkOf]; omega, ?_⟩
  intro i v hv
  unfold chunkOf at hv
  rw [List.map_take, List.map_drop] at hv
  have hi : i < n := by
    have := (List.getElem?_eq_some_iff.1 hv).1; simp at this; omega
  rw [List.getElem?_take, if_pos hi, List.getElem?_drop] at hv
  obtain ⟨ad, e, hc⟩ := hp.reads _ _ hv
  exact ⟨ad.add (k * n), by rw [e]; rfl, by rw [add_add]; exact hc⟩

/-! ### The program's reading -/

/-- What stands between the rounds. -/
structure GetG (H0 : Heap) (B : Nat) (b : List Int) (w : Int) (p : Sl) (r2 : Nat) (p1 p2 p3 p4 c c1 : Addr) (k : Nat) (H : Heap) : Prop where
  r2 : H[r2]? = some (.deferred (some []))
  v1 : VarT H p1 ty_int (.int .i64 w)
  v2 : VarT H p2 ty_sl_sl_uint64 (.slice none 0 0)
  v3 : VarT H p3 ty_api_Errno (.int .i64 0)
  vc : VarT H c ty_sl_uint8 p.v
  vc1 : VarT H c1 ty_int (.int .i64 (sizeL w))
  rows : ∃ s rs, VarT H p4 ty_sl_sl_uint64 (Sl.v s) ∧ s.n = k ∧ RowsOwn H B s rs (rowsOf b w k)
  ext : Ext H0 H
  zero : w = 0 → ∀ j, j < k → b.getD j 0 = 0

theorem GetG.mod {H0 : Heap} {B : Nat} {b : List Int} {w : Int} {p : Sl} {r2 : Nat} {p1 p2 p3 p4 c c1 : Addr} {k : Nat} {F : Nat → Prop} {H H' : Heap} (h : GetG H0 B b w p r2 p1 p2 p3 p4 c c1 k H) (hm : Mod F H H')
    (h0 : ∀ b, b < H0.size → ¬ F b) (hc : ∀ b cs t, H[b]? = some (.cells cs t (0, 0)) → ¬ F b) (hd : ∀ b d, H[b]? = some (.deferred d) → ¬ F b) : GetG H0 B b w p r2 p1 p2 p3 p4 c c1 k H' := by
  obtain ⟨s, rs, v4, hn, ro⟩ := h.rows
  refine ⟨(hm.same _ ?_ (hd _ _ h.r2)).trans h.r2, h.v1.mod hm (hc _ _ _ h.v1.obj), h.v2.mod hm (hc _ _ _ h.v2.obj), h.v3.mod hm (hc _ _ _ h.v3.obj), h.vc.mod hm (hc _ _ _ h.vc.obj), h.vc1.mod hm (hc _ _ _ h.vc1.obj),
    ⟨s, rs, v4.mod hm (hc _ _ _ v4.obj), hn, ro.mod hm (fun b hb => ?_) (fun r hr b hb => ?_)⟩, (h.ext.mod (F := F).trans hm).ext (fun b hb => ?_), h.zero⟩
  · exact (Array.getElem?_eq_some_iff.1 h.r2).1
  · obtain ⟨cur, q⟩ := ro.out.obj b hb; exact hc _ _ _ q
  · obtain ⟨l, hl⟩ := ro.rowAt hr
    obtain ⟨cur, q⟩ := hl.obj b hb; exact hc _ _ _ q
  · rcases Nat.lt_or_ge b H0.size with q | q
    · exact absurd hb (h0 b q)
    · exact q
theorem GetG.set {H0 : Heap} {B : Nat} {b : List Int} {w : Int} {p : Sl} {r2 : Nat} {p1 p2 p3 p4 c c1 : Addr} {k l : Nat} {H : Heap} {x : Loop} {o : Obj} (h : GetG H0 B b w p r2 p1 p2 p3 p4 c c1 k H) (hl : H[l]? = some (.loop x)) (hl0 : H0.size ≤ l) :
    GetG H0 B b w p r2 p1 p2 p3 p4 c c1 k (H.setIfInBounds l o) :=
  h.mod (F := fun b => b = l) (Mod.setObj rfl) (fun b hb e => by omega) (fun b cs t hb e => by subst e; rw [hl] at hb; cases hb) (fun b d hb e => by subst e; rw [hl] at hb; cases hb)
theorem GetG.extd {H0 : Heap} {B : Nat} {b : List Int} {w : Int} {p : Sl} {r2 : Nat} {p1 p2 p3 p4 c c1 : Addr} {k : Nat} {H H' : Heap} (h : GetG H0 B b w p r2 p1 p2 p3 p4 c c1 k H) (hm : Ext H H') : GetG H0 B b w p r2 p1 p2 p3 p4 c c1 k H' :=
  h.mod hm (fun _ _ => id) (fun _ _ _ _ => id) (fun _ _ _ => id)

set_option maxHeartbeats 4000000 in
theorem rowGet_ok {p : Sl} {b : List Int} {w : Int} {H : Heap} {K : (Sl × Int) → Heap → Prop} (hp : Ints .u8 H p b) (hc : p.n ≤ p.c) (hbb : ∀ x ∈ b, 0 ≤ x ∧ x < 256) (hlen : b.length ≤ 1000000)
    (hK : ∀ s rs H', RowsOwn H' H.size s rs (getL b w) → Ext H H' → K (s, getE b w) H') : row_Get.sp p w H K := by
  refine row_Get.of ?_
  unfold row_Get.vc
  rw [zc_rows, zc_errno]
  have pn := hp.len
  refine newC_varT fun p1 H1 hp1 s1 v1 e1 => ?_
  refine newC_varT fun p2 H2 hp2 s2 v2 e2 => ?_
  refine newC_varT fun p3 H3 hp3 s3 v3 e3 => ?_
  have v1' := (v1.ext e2).ext e3
  have v2' := v2.ext e3
  have e03 : Ext H H3 := (e1.trans e2).trans e3
  refine v1'.ld (c := cInt .i64) (x := w) ?_
  -- the answer where the width is not one
  have bad : ∀ H4 : Heap, VarT H4 p2 ty_sl_sl_uint64 (.slice none 0 0) → VarT H4 p3 ty_api_Errno (.int .i64 60) → Ext H H4 → getOK b w = false →
      ld cSl H4 p2 fun res => ld (cInt .i64) H4 p3 fun res_1 => K (res, res_1) H4 := by
    intro H4 q2 q3 e hf
    refine q2.ld (c := cSl) (x := Sl.mk none 0 0) ?_
    refine q3.ld (c := cInt .i64) (x := 60) ?_
    have := hK (Sl.mk none 0 0) [] H4 (by unfold getL; rw [hf]; exact RowsOwn.nil _ _) e
    unfold getE at this; rw [hf] at this; exact this
  have badW : getOK b w = false → st H3 p2 (.slice none 0 0) fun H5 => st H5 p3 (.int .i64 60) fun H6 => ld cSl H6 p2 fun res => ld (cInt .i64) H6 p3 fun res_1 => K (res, res_1) H6 := by
    intro hf
    refine v2'.st rfl fun H5 q2 m5 s5 => ?_
    refine (v3.mod m5 (by omega)).st rfl fun H6 q3 m6 s6 => ?_
    exact bad H6 (q2.mod m6 (by omega)) q3 (((e03.mod (F := fun b => b = p2.block ∨ b = p3.block).trans (m5.mono (fun b _ h => .inl h))).trans (m6.mono (fun b _ h => .inr h))).ext (fun b hb => by omega)) hf
  refine rowSize_ok ?_
  refine br_mk (fun h => badW (by unfold getOK; simp at h; simp [h])) (fun h => ?_)
  have h' : sizeL w ≠ 0 := by simpa using h
  have hsz := sizeL_cases w
  refine ⟨h', br_mk (fun h2 => badW (by unfold getOK; rw [pn] at h2; simp at h2; simp [h2])) (fun h2 => ?_)⟩
  have h2' : Int.tmod (b.length : Int) (sizeL w) = 0 := by rw [pn] at h2; simpa using h2
  obtain ⟨n, hn⟩ : ∃ n : Nat, sizeL w = (n : Int) := ⟨(sizeL w).toNat, by omega⟩
  have hn0 : 0 < n := by omega
  obtain ⟨m, hm⟩ : ∃ m, m = b.length / n := ⟨_, rfl⟩
  have hmul : b.length = m * n := by rw [hm]; exact tmod_zero hn0 (by rw [← hn]; exact h2')
  have hw0 : 0 ≤ w ∧ w ≤ 16 := by
    unfold sizeL at h'
    split at h'
    · exact absurd rfl h'
    · omega
  have hnw : w ≠ 0 → n = 8 * w.toNat := by
    intro hw; unfold sizeL at hn; rw [if_neg (by omega), if_neg hw] at hn; omega
  have hn1 : w = 0 → n = 1 := by intro hw; unfold sizeL at hn; rw [hw] at hn; simp at hn; omega
  have hdiv : m ≤ b.length := by rw [hm]; exact Nat.div_le_self _ _
  have ediv : IntKind.i64.wrap (Int.tdiv (p.n : Int) (sizeL w)) = ((m : Nat) : Int) := by
    rw [pn, hn, ← Int.ofNat_tdiv, ← hm, wrap64 (by omega) (by omega)]
  refine ⟨h', ?_⟩
  rw [ediv]
  refine elRow.make (base := H.size) (by omega) (by omega) (by omega) (by omega) e03.size ?_
  intro sl H9 n9 o9 e9 b9 _
  refine newC_varT fun p4 H10 hp4 s10 v4 e10 => ?_
  refine v4.st rfl fun H11 v4b m11 s11 => ?_
  have m911 : Ext H9 H11 := (e10.mod (F := fun b => b = p4.block).trans m11).ext (fun b hb => by omega)
  have e011 : Ext H H11 := (e03.trans e9).trans m911
  refine Chunk_ok (by omega) fun c c1 H12 hcb hc1b s12 vc vc1 e12 => ?_
  have hcallable : callable Try.prog slices_Chunk_sl_byte_byte_c1.no = true := by kernel_rfl
  refine ⟨slices_Chunk_sl_byte_byte_c1.no, #[.pointer (some c), .pointer (some c1)], rfl, hcallable, fun rec hround => ?_⟩
  obtain ⟨l, hl⟩ : ∃ l, l = H12.size + 1 := ⟨_, rfl⟩
  obtain ⟨r2, hr2⟩ : ∃ r, r = H12.size := ⟨_, rfl⟩
  rw [← hl] at hround ⊢
  rw [← hr2]
  obtain ⟨H13, hH13⟩ : ∃ H13 : Heap, H13 = (H12.push (.deferred (some []))).push (.loop (rec .ready none)) := ⟨_, rfl⟩
  rw [← hH13]
  have e13 : Ext H12 H13 := by rw [hH13]; exact (Mod.push _ _ _).trans (Mod.push _ _ _)
  have hl13 : H13[l]? = some (.loop (rec .ready none)) := by rw [hH13, hl, Array.getElem?_push, if_pos (by simp)]
  have hr13 : H13[r2]? = some (.deferred (some [])) := by rw [hH13, hr2]; simp [Array.getElem?_push]
  have hl0 : H.size ≤ l := by have := (e011.trans e12).size; omega
  have hp24 : p2.block ≠ p4.block := by have := e9.size; omega
  have e913 : Ext H9 H13 := (m911.trans e12).trans e13
  have e313 : Ext H3 H13 := e9.trans e913
  -- between the rounds
  let I : Nat → Heap → Prop := fun k H' => H'[l]? = some (.loop (rec .ready none)) ∧ GetG H H.size b w p r2 p1 p2 p3 p4 c c1 k H'
  let D : Heap → Prop := fun H' => H'[l]? = some (.loop (rec .done (some .ret))) ∧ H'[r2]? = some (.deferred (some [])) ∧ VarT H' p2 ty_sl_sl_uint64 (.slice none 0 0) ∧ VarT H' p3 ty_api_Errno (.int .i64 60) ∧ Ext H H' ∧ getOK b w = false
  refine Spec.mono (R := fun v H' => ∃ x : Unit, v = (cTup []).enc x ∧ rangeK l rec H' _ _ _) (Chunks_ok (l := l) (c := c) (c1 := c1) (p := p) (n := n) (m := m) (H := H13) (K := fun _ H' => rangeK l rec H' _ _ _) I D hn0 (by rw [pn]; exact hmul) hc (by omega) (by omega) ?_ ?_ ?_ ?_ ?_) (fun v H' ⟨x, _, h⟩ => h)
  · clear hround
    rintro k H' ⟨_, g⟩
    exact ⟨g.vc, by have := g.vc1; rw [hn] at this; exact this⟩
  · clear hround
    refine ⟨hl13, hr13, v1'.ext e313, v2'.ext e313, v3.ext e313, vc.ext e13, vc1.ext e13, ⟨sl, [], (v4b.ext e12).ext e13, by simpa using n9, ⟨by simpa using o9.ext e913, rfl, by simp, by simp⟩⟩, (e011.trans e12).trans e13, fun _ j hj => by omega⟩
  · -- a round
    rintro k H' hk ⟨hlr, g⟩
    refine hround [(Sl.mk (p.a.map (·.add (k * n))) n n).v] H' _ hlr ?_
    clear hround
    have hb2 : k * n + n ≤ b.length := by
      have := Nat.mul_le_mul_right n (Nat.succ_le_of_lt hk)
      rw [Nat.succ_mul] at this; omega
    have hk1 : k < b.length := by have := Nat.le_mul_of_pos_right k hn0; omega
    have hcl := chunkOf_length hmul hk
    show _ ∧ _
    refine ⟨hlr, ?_⟩
    obtain ⟨Hb, hHb⟩ : ∃ Hb : Heap, Hb = H'.setIfInBounds l (.loop (rec .busy none)) := ⟨_, rfl⟩
    rw [← hHb]
    have gb : GetG H H.size b w p r2 p1 p2 p3 p4 c c1 k Hb := by rw [hHb]; exact g.set hlr hl0
    have hlb : Hb[l]? = some (.loop (rec .busy none)) := by rw [hHb]; exact setObj_at hlr
    refine ⟨fun _ H14 => Hb = H14 ∧ (w = 0 → b.getD k 0 = 0), ?_, ?_⟩
    · refine gb.v1.ld (c := cInt .i64) (x := w) ?_
      refine br_mk (fun h4 => ?_) (fun h4 => ⟨rfl, fun hw => by simp at h4; exact absurd hw h4⟩)
      have hw : w = 0 := by simpa using h4
      have hci := (hp.ext gb.ext).chunk hb2
      refine ints_get hci (i := 0) (j := 0) rfl (by omega) fun ad q => ?_
      rw [chunkOf_getD hn0, hn1 hw]
      have e0 : k * 1 + 0 = k := by omega
      rw [e0]
      refine br_mk (fun h5 => ?_) (fun h5 => ⟨rfl, fun _ => by simpa using h5⟩)
      have hf := getOK_bad hw hk1 (by simpa using h5)
      refine gb.v2.st rfl fun H15 q2 m15 s15 => ?_
      have hp23 : p3.block ≠ p2.block := by omega
      refine (gb.v3.mod m15 hp23).st rfl fun H16 q3 m16 s16 => ?_
      have mm : Mod (fun b => b = p2.block ∨ b = p3.block) Hb H16 := (m15.mono (fun b _ h => .inl h)).trans (m16.mono (fun b _ h => .inr h))
      have hll : l < Hb.size := (Array.getElem?_eq_some_iff.1 hlb).1
      have h16 : H16[l]? = some (.loop (rec .busy none)) := (mm.same l hll (by
        rintro (e | e)
        · have := gb.v2.obj; rw [← e, hlb] at this; cases this
        · have := gb.v3.obj; rw [← e, hlb] at this; cases this)).trans hlb
      have hrr : r2 < Hb.size := (Array.getElem?_eq_some_iff.1 gb.r2).1
      have h16r : H16[r2]? = some (.deferred (some [])) := (mm.same r2 hrr (by
        rintro (e | e)
        · have := gb.v2.obj; rw [← e, gb.r2] at this; cases this
        · have := gb.v3.obj; rw [← e, gb.r2] at this; cases this)).trans gb.r2
      refine ⟨h16, ?_⟩
      show D _
      have m17 : Mod (fun b => b = l) H16 (H16.setIfInBounds l (.loop (rec .done (some .ret)))) := Mod.setObj rfl
      have hne : ∀ q : Addr, ∀ t v, VarT H16 q t v → q.block ≠ l := fun q t v hv e => by have := hv.obj; rw [e, h16] at this; cases this
      have q2' := q2.mod m16 (Ne.symm hp23)
      refine ⟨setObj_at h16, (m17.same r2 (Array.getElem?_eq_some_iff.1 h16r).1 (by omega)).trans h16r, q2'.mod m17 (hne _ _ _ q2'), q3.mod m17 (hne _ _ _ q3), ?_, hf⟩
      have e16 : Ext H H16 := (gb.ext.mod (F := fun b => b = p2.block ∨ b = p3.block).trans mm).ext (fun b hb => by omega)
      exact (e16.mod (F := fun b => b = l).trans m17).ext (fun b hb => by omega)
    · rintro _ H14 ⟨rfl, hzero⟩
      refine gb.v1.ld (c := cInt .i64) (x := w) ?_
      refine elU64.make (base := H.size) hw0.1 (Int.le_refl _) (by omega) (by omega) gb.ext.size ?_
      intro sl1 H17 n17 o17 e17 b17 _
      have g17 := gb.extd e17
      refine g17.v1.ld (c := cInt .i64) (x := w) ?_
      rw [wrap64 (x := 8 * w) (by omega) (by omega)]
      refine loop_upto (8 * w.toNat) (fun i z H' => z = (i : Int) ∧ Owns H' H.size ty_uint64 1 sl1 ((rowOf ((chunkOf b n k).take i) w.toNat).map (Value.int .u64)) ∧ Ext Hb H') ⟨rfl, by simpa [rowOf_nil] using o17, e17⟩ ?_
      rintro i z H18 next hi ⟨rfl, o18, e18⟩ hnext
      refine br_mk (fun h6 => ?_) (fun h6 => ?_)
      · have hi8 : i < 8 * w.toNat := by simp at h6; omega
        have hw : w ≠ 0 := by omega
        have hn8 := hnw hw
        have ei : IntKind.i64.wrap (Int.tdiv (i : Int) 8) = ((i / 8 : Nat) : Int) := by
          rw [show (8 : Int) = ((8 : Nat) : Int) from rfl, ← Int.ofNat_tdiv, wrap64 (by omega) (by omega)]
        rw [ei]
        have hq : i / 8 < w.toNat := by omega
        refine o18.ints.ld (by omega) (by rw [rowOf_length]; omega) fun ad1 q1 => ?_
        refine ((hp.ext (gb.ext.trans e18)).chunk hb2).ld (by omega) (by omega) fun ad2 q2 => ?_
        simp only [Int.toNat_natCast]
        have hr := wordOf_range ((((chunkOf b n k).take i).drop (8 * (i / 8))).take 8)
        have hx : (rowOf ((chunkOf b n k).take i) w.toNat).getD (i / 8) 0 = wordOf ((((chunkOf b n k).take i).drop (8 * (i / 8))).take 8) := by
          simp only [rowOf, List.getD, List.getElem?_map, List.getElem?_range hq, Option.map_some, Option.getD_some]
        have hby : 0 ≤ (chunkOf b n k).getD i 0 ∧ (chunkOf b n k).getD i 0 < 256 := by
          have hi2 : i < (chunkOf b n k).length := by omega
          simp only [List.getD, List.getElem?_eq_getElem hi2, Option.getD_some]
          exact hbb _ (List.mem_of_mem_drop (List.mem_of_mem_take (List.getElem_mem hi2)))
        rw [ior_word (by rw [hx]; exact hr.1) (by rw [hx]; exact hr.2) hby.1 hby.2]
        refine o18.st (by omega) (by rw [n17]; omega) rfl fun H19 o19 m19 s19 => ?_
        refine hnext hi8 _ _ ⟨by rw [succ64 i (by omega)], ?_, (e18.mod (F := ownB sl1).trans m19).ext b17⟩
        rw [← rowOf_step (by omega) (by omega)]
        simp only [Int.toNat_natCast, ← List.map_set] at o19
        exact o19
      · have hi8 : i = 8 * w.toNat := by simp at h6; omega
        have hfull : rowOf ((chunkOf b n k).take i) w.toNat = rowOf (chunkOf b n k) w.toNat := by
          by_cases hw : w = 0
          · rw [hw]; rfl
          · rw [List.take_of_length_le (by rw [hcl, hnw hw]; omega)]
        rw [hfull] at o18
        have g18 := gb.extd e18
        obtain ⟨s, rs, v4s, hsn, ro⟩ := gb.rows
        have ro18 := ro.ext e18
        refine (v4s.ext e18).ld (c := cSl) (x := s) ?_
        refine ro18.push o18 (fun r' hr' x hx hx' => ?_) (by omega) (gb.ext.trans e18).size ?_
        · have h1 := (ro.block.2 r' hr' x hx').2
          have h2 := b17 x hx
          omega
        intro s7 H21 n21 r21 m21
        have hne4 : ¬ ownB s p4.block := fun hb => by
          obtain ⟨cur, q⟩ := ro18.out.obj _ hb
          exact absurd (cells_ty q (v4s.ext e18).obj) (by decide)
        refine ((v4s.ext e18).mod m21 hne4).st rfl fun H22 v22 m22 s22 => ?_
        have hb21 : ∀ b, ownB s b → H.size ≤ b := fun b hb => (ro.block.1 b hb).1
        have hl18 : H18[l]? = some (.loop (rec .busy none)) := (e18.same l (Array.getElem?_eq_some_iff.1 hlb).1 id).trans hlb
        have hl21 : H21[l]? = some (.loop (rec .busy none)) := (m21.same l (Array.getElem?_eq_some_iff.1 hl18).1 (fun hb => by
          obtain ⟨cur, q⟩ := ro18.out.obj _ hb; rw [hl18] at q; cases q)).trans hl18
        have hl22 : H22[l]? = some (.loop (rec .busy none)) := (m22.same l (Array.getElem?_eq_some_iff.1 hl21).1 (fun hb => by
          have q := (v4s.ext e18).mod m21 hne4
          have := q.obj; rw [← hb, hl21] at this; cases this)).trans hl21
        refine ⟨hl22, ?_⟩
        show I (k + 1) _
        have mm : Mod (fun b => ownB s b ∨ b = p4.block) H18 H22 := (m21.mono (fun b _ h => .inl h)).trans (m22.mono (fun b _ h => .inr h))
        have keep : ∀ {q : Addr} {t : TypeId} {v : Value}, VarT H18 q t v → t ≠ ty_sl_uint64 → q.block ≠ p4.block → VarT H22 q t v := by
          intro q t v hv ht hq
          refine hv.mod mm ?_
          rintro (hb | hb)
          · obtain ⟨cur, q1⟩ := ro18.out.obj _ hb
            have := hv.obj; rw [this] at q1; simp at q1; exact ht q1.2
          · exact hq hb
        have g22 : GetG H H.size b w p r2 p1 p2 p3 p4 c c1 (k + 1) H22 := by
          have hr18 : r2 < H18.size := (Array.getElem?_eq_some_iff.1 g18.r2).1
          refine ⟨(mm.same r2 hr18 ?_).trans g18.r2, keep g18.v1 (by decide) (by have := e9.size; omega), keep g18.v2 (by decide) hp24, keep g18.v3 (by decide) (by have := e9.size; omega), keep g18.vc (by decide) (by have := e9.size; omega), keep g18.vc1 (by decide) (by have := e9.size; omega), ⟨s7, rs ++ [sl1], v22, by omega, ?_⟩, ?_, ?_⟩
          · rintro (hb | hb)
            · obtain ⟨cur, q1⟩ := ro18.out.obj _ hb
              rw [g18.r2] at q1; cases q1
            · have := (v4s.ext e18).obj; rw [← hb, g18.r2] at this; cases this
          · rw [rowsOf_succ, hn]
            have r21' : RowsOwn H21 H.size s7 (rs ++ [sl1]) (rowsOf b w k ++ [rowOf (chunkOf b n k) w.toNat]) := r21
            have v21 := (v4s.ext e18).mod m21 hne4
            refine r21'.mod m22 (fun b hb e => ?_) (fun r hr b hb e => ?_)
            · obtain ⟨cur, q1⟩ := r21'.out.obj _ hb
              rw [e] at q1; exact absurd (cells_ty q1 v21.obj) (by decide)
            · obtain ⟨lx, hlx⟩ := r21'.rowAt hr
              obtain ⟨cur, q1⟩ := hlx.obj _ hb
              rw [e] at q1; exact absurd (cells_ty q1 v21.obj) (by decide)
          · exact ((Ext.mod (F := fun b => ownB s b ∨ b = p4.block) (gb.ext.trans e18)).trans mm).ext (fun b hb => by
              rcases hb with hb | hb
              · exact hb21 b hb
              · have := (e03.trans e9).size; omega)
          · intro hw j hj
            rcases Nat.lt_or_ge j k with q | q
            · exact gb.zero hw j q
            · have : j = k := by omega
              rw [this]; exact hzero hw
        exact ⟨setObj_at hl22, g22.set hl22 hl0⟩
  · -- all rounds are done
    clear hround
    rintro H' ⟨hlr, g⟩
    refine ⟨.ready, none, hlr, rfl, ?_⟩
    obtain ⟨H'', hH''⟩ : ∃ H'' : Heap, H'' = H'.setIfInBounds l (.loop (rec .exhausted none)) := ⟨_, rfl⟩
    show ld _ _ _ _
    rw [← hH'']
    have g2 : GetG H H.size b w p r2 p1 p2 p3 p4 c c1 m H'' := by rw [hH'']; exact g.set hlr hl0
    obtain ⟨s, rs, v4s, hsn, ro⟩ := g2.rows
    refine v4s.ld (c := cSl) (x := s) ?_
    refine g2.v2.st rfl fun H24 q2 m24 s24 => ?_
    have hp23 : p3.block ≠ p2.block := by omega
    refine (g2.v3.mod m24 hp23).st rfl fun H25 q3 m25 s25 => ?_
    have mm : Mod (fun b => b = p2.block ∨ b = p3.block) H'' H25 := (m24.mono (fun b _ h => .inl h)).trans (m25.mono (fun b _ h => .inr h))
    have hr : r2 < H''.size := (Array.getElem?_eq_some_iff.1 g2.r2).1
    have h25r : H25[r2]? = some (.deferred (some [])) := (mm.same r2 hr (by
      rintro (e | e)
      · have := g2.v2.obj; rw [← e, g2.r2] at this; cases this
      · have := g2.v3.obj; rw [← e, g2.r2] at this; cases this)).trans g2.r2
    refine ⟨h25r, ?_⟩
    have m26 : Mod (fun b => b = r2) H25 (H25.setIfInBounds r2 (.deferred none)) := Mod.setObj rfl
    have hne : ∀ {q : Addr} {t : TypeId} {v : Value}, VarT H25 q t v → ¬ q.block = r2 := fun hv e => by have := hv.obj; rw [e, h25r] at this; cases this
    have q2' := q2.mod m25 (Ne.symm hp23)
    refine (q2'.mod m26 (hne q2')).ld (c := cSl) (x := s) ?_
    refine (q3.mod m26 (hne q3)).ld (c := cInt .i64) (x := 0) ?_
    have hok : getOK b w = true := getOK_good h' h2' (fun hw j hj => g2.zero hw j (by rw [hm, hn1 hw]; simpa using hj))
    have mAll : Mod (fun b => b = p2.block ∨ b = p3.block ∨ b = r2) H'' (H25.setIfInBounds r2 (.deferred none)) := (mm.mono (fun b _ h => by rcases h with h | h; exact .inl h; exact .inr (.inl h))).trans (m26.mono (fun b _ h => .inr (.inr h)))
    have hcells : ∀ b cs t, H''[b]? = some (.cells cs t (0, 0)) → t ≠ ty_sl_sl_uint64 → t ≠ ty_api_Errno → ¬ (b = p2.block ∨ b = p3.block ∨ b = r2) := by
      rintro b cs t hb h1 h2 (e | e | e)
      · have := g2.v2.obj; rw [← e, hb] at this; simp at this; exact h1 this.2
      · have := g2.v3.obj; rw [← e, hb] at this; simp at this; exact h2 this.2
      · rw [e, g2.r2] at hb; cases hb
    have := hK s rs (H25.setIfInBounds r2 (.deferred none)) (by
      unfold getL; rw [hok, if_pos rfl, hn]; simp only [Int.toNat_natCast]; rw [← hm]
      refine ro.mod mAll (fun b hb => ?_) (fun r hr b hb => ?_)
      · obtain ⟨cur, q1⟩ := ro.out.obj _ hb
        exact hcells _ _ _ q1 (by decide) (by decide)
      · obtain ⟨lx, hlx⟩ := ro.rowAt hr
        obtain ⟨cur, q1⟩ := hlx.obj _ hb
        exact hcells _ _ _ q1 (by decide) (by decide)) ((g2.ext.mod (F := fun b => b = p2.block ∨ b = p3.block ∨ b = r2).trans mAll).ext (fun b hb => by
          have := (e011.trans e12).size
          omega))
    unfold getE at this; rw [hok] at this; exact this
  · -- left by a return
    clear hround
    rintro H' ⟨hlr, hrr, q2, q3, e, hf⟩
    refine ⟨.done, some .ret, hlr, rfl, ?_⟩
    obtain ⟨H'', hH''⟩ : ∃ H'' : Heap, H'' = H'.setIfInBounds l (.loop (rec .exhausted (some .ret))) := ⟨_, rfl⟩
    show _ ∧ _
    rw [← hH'']
    have m1 : Mod (fun b => b = l) H' H'' := by rw [hH'']; exact Mod.setObj rfl
    have hne : ∀ {q : Addr} {t : TypeId} {v : Value}, VarT H' q t v → ¬ q.block = l := fun hv e => by have := hv.obj; rw [e, hlr] at this; cases this
    have hrr' : H''[r2]? = some (.deferred (some [])) := (m1.same r2 (Array.getElem?_eq_some_iff.1 hrr).1 (by omega)).trans hrr
    refine ⟨hrr', ?_⟩
    have m2 : Mod (fun b => b = r2) H'' (H''.setIfInBounds r2 (.deferred none)) := Mod.setObj rfl
    have hne2 : ∀ {q : Addr} {t : TypeId} {v : Value}, VarT H'' q t v → ¬ q.block = r2 := fun hv e => by have := hv.obj; rw [e, hrr'] at this; cases this
    have q2' := q2.mod m1 (hne q2)
    have q3' := q3.mod m1 (hne q3)
    exact bad _ (q2'.mod m2 (hne2 q2')) (q3'.mod m2 (hne2 q3')) (((e.mod (F := fun b => b = l ∨ b = r2).trans (m1.mono (fun b _ h => .inl h))).trans (m2.mono (fun b _ h => .inr h))).ext (fun b hb => by
      have := (e011.trans e12).size
      omega)) hf

end Go.Proofs.Ytndnjggcpdkbiaa
