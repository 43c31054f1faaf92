/-
  Byte files put on a disk: pieces, one behind another: the walk.
-/
import Derived.Test.YtjjfngnokbboeaaDoorJ16
import Derived.Test.YtjjfngnokbboeaaDoorJ38
import Derived.Test.YtjjfngnokbboeaaDoorDkl
import Derived.Test.YtjjfngnokbboeaaDoorDlg
namespace Go.Proofs.YtjjfngnokbboeaaDoor
open Go.MapKept

theorem Chunk_ok {p : Sl} {n : Int} {H : Heap} {K : Value → Heap → Prop} (hn : 1 ≤ n)
    (hK : ∀ c c1 H', c.block = H.size → c1.block = H.size + 1 → H'.size = H.size + 2 → VarT H' c ty_sl_uint8 p.v → VarT H' c1 ty_int (.int .i64 n) → Ext H H' →
      K (.func (.func slices_Chunk_sl_byte_byte_c1.no) #[] #[.pointer (some c), .pointer (some c1)]) H') : slices_Chunk_sl_byte_byte.sp p n H K := by
  refine slices_Chunk_sl_byte_byte.of ?_
  unfold slices_Chunk_sl_byte_byte.vc
  refine newC_varT fun c H1 hc s1 v1 e1 => ?_
  refine newC_varT fun c1 H2 hc1 s2 v2 e2 => ?_
  refine v2.ld (c := cInt .i64) (x := n) ?_
  refine br_mk (fun h => ?_) (fun h => ?_)
  · simp at h; omega
  · exact hK c c1 H2 hc (by omega) (by omega) (v1.ext e2) v2 (e1.trans e2)

/-- The piece 'k' of a slice, in memory. -/
def pieceS (p : Sl) (n k : Nat) : Sl := Sl.mk (slA p.a (min p.n (k * n + n)) (k * n) 1) (min n (p.n - k * n)) (min n (p.n - k * n))
theorem Pieces_ok {l : Nat} {c c1 : Addr} {p : Sl} {n m : Nat} {H : Heap} {K : Unit → Heap → Prop} (I : Nat → Heap → Prop) (D : Heap → Prop) (hn : 0 < n) (hm : m = (p.n + (n - 1)) / n) (hc : p.n ≤ p.c) (hbig : p.n ≤ 1000000) (hnb : n ≤ 1000000)
    (hI : ∀ k H', I k H' → VarT H' c ty_sl_uint8 p.v ∧ VarT H' c1 ty_int (.int .i64 (n : Int))) (h0 : I 0 H)
    (hs : ∀ k H', k < m → I k H' → YieldSpec Tryd.prog l #[(pieceS p n k).v] H' fun b H'' => if b then I (k + 1) H'' else D H'')
    (hfin : ∀ H', I m H' → K () H') (hD : ∀ H', D H' → K () H') : slices_Chunk_sl_byte_byte_c1.sp l c c1 H K := by
  refine slices_Chunk_sl_byte_byte_c1.of ?_
  unfold slices_Chunk_sl_byte_byte_c1.vc
  have hlt : ∀ k, k < m ↔ k * n < p.n := by
    intro k
    rw [hm, Nat.lt_iff_add_one_le, Nat.le_div_iff_mul_le hn, Nat.succ_mul]
    omega
  refine loop_upto m (fun k i H' => i = ((k * n : Nat) : Int) ∧ I k H') ⟨by simp, h0⟩ ?_
  rintro k i H1 next hk ⟨rfl, hIk⟩ hnext
  obtain ⟨v, v1⟩ := hI k H1 hIk
  have hkn : k * n ≤ p.n + n := by
    have h1 : m * n ≤ p.n + (n - 1) := by rw [hm]; exact Nat.div_mul_le_self _ _
    have := Nat.mul_le_mul_right n hk
    omega
  refine v.ld (c := cSl) (x := p) ?_
  refine br_mk (fun h => ?_) (fun h => ?_)
  · have hk2 : k * n < p.n := by
      have : ((k * n : Nat) : Int) < (p.n : Int) := by simpa using h
      omega
    have hkm := (hlt k).2 hk2
    have hsy := hs k H1 hkm hIk
    unfold pieceS at hsy
    have hnx : (((k + 1) * n : Nat) : Int) = ((k * n + n : Nat) : Int) := by rw [Nat.succ_mul]
    generalize hq : k * n = q at *
    refine v1.ld (c := cInt .i64) (x := (n : Int)) ?_
    refine v.ld (c := cSl) (x := p) ?_
    refine ⟨⟨by omega, by omega⟩, ?_⟩
    refine v.ld (c := cSl) (x := p) ?_
    have eE : IntKind.i64.wrap ((q : Int) + (if ((p.n - (q : Int).toNat : Nat) : Int) < (n : Int) then ((p.n - (q : Int).toNat : Nat) : Int) else (n : Int))) = ((min p.n (q + n) : Nat) : Int) := by
      have : (if ((p.n - (q : Int).toNat : Nat) : Int) < (n : Int) then ((p.n - (q : Int).toNat : Nat) : Int) else (n : Int)) = ((min p.n (q + n) - q : Nat) : Int) := by
        split <;> omega
      rw [this, wrap64 (by omega) (by omega)]; omega
    rw [eE]
    refine ⟨⟨by omega, by omega⟩, ⟨by omega, by omega⟩, ⟨by omega, by omega⟩, ?_⟩
    have en : ((min p.n (q + n) : Nat) : Int).toNat - (q : Int).toNat = min n (p.n - q) := by omega
    simp only [Int.toNat_natCast] at en ⊢
    rw [en]
    refine hsy.mono fun b H2 hb => ?_
    cases b with
    | false => exact hD H2 hb
    | true =>
      have hb' : I (k + 1) H2 := hb
      refine (hI _ _ hb').2.ld (c := cInt .i64) (x := (n : Int)) ?_
      refine hnext hkm _ _ ⟨?_, hb'⟩
      rw [hnx, wrap64 (by omega) (by omega)]; omega
  · have hge : ¬ k * n < p.n := by
      intro q
      have h' : ¬ ((k * n : Nat) : Int) < (p.n : Int) := by simpa using h
      omega
    have : k = m := by
      have : ¬ k < m := fun q => hge ((hlt k).1 q)
      omega
    subst this
    exact hfin H1 hIk
theorem piece_byts {H : Heap} {p : Sl} {L : List UInt8} (h : Byts H p L) {k : Nat} (hk : k * 504 < p.n) : Byts H (pieceS p 504 k) ((L.drop (504 * k)).take 504) ∧ ∀ ad, (pieceS p 504 k).a = some ad → ∃ ad0, p.a = some ad0 ∧ ad0.block = ad.block := by
  have hn := h.n
  have hne : min p.n (k * 504 + 504) ≠ k * 504 := by omega
  obtain ⟨ad, ha, _⟩ := h.addr (by omega)
  have ea : (pieceS p 504 k).a = some (ad.add (k * 504)) := by
    unfold pieceS slA
    simp only
    rw [if_neg hne, ha, Nat.mul_one]; rfl
  refine ⟨⟨by simp [u8i, pieceS]; omega, ?_⟩, fun ad' ha' => ⟨ad, ha, by rw [ea] at ha'; cases ha'; exact (add_block _ _).symm⟩⟩
  intro i v hv
  rw [ea]
  have hv2 : ((u8i L).map (Value.int .u8))[k * 504 + i]? = some v := by
    have hi : i < 504 := by
      have := (List.getElem?_eq_some_iff.1 hv).1
      simp [u8i] at this; omega
    have e : (u8i ((L.drop (504 * k)).take 504)).map (Value.int .u8) = (((u8i L).map (Value.int .u8)).drop (504 * k)).take 504 := by simp [u8i, List.map_take, List.map_drop]
    rw [e, List.getElem?_take, if_pos hi, List.getElem?_drop] at hv
    rw [Nat.mul_comm k 504]; exact hv
  obtain ⟨ad2, h2, hc⟩ := h.reads _ _ hv2
  rw [ha] at h2; cases h2
  exact ⟨_, rfl, by rw [add_add]; exact hc⟩

/-- What the walk of 'Put' asks behind the removing. -/
def putRest (p p_1 p_2 : Addr) (b : Sl) (H6 : Heap) (R : Int → Heap → Prop) : Prop :=
  ld cPtr H6 p fun (x_5 : Option Addr) => ld cStr H6 p_1 fun (x_6 : ByteArray) => disk_Disk_Create.sp x_5 x_6 H6 fun (e_1 : Int) H8 => br (e_1 != (0 : Int)) (st H8 p_2 (.int .i64 e_1) fun H9 => ld (cInt .i64) H9 p_2 fun (res_2 : Int) => R res_2 H9) (manifest_bytesOf.sp (IntKind.u64.wrap (b.n : Int)) (8 : Int) H8 fun (r_1 : Sl) H10 => doT cSl Tryd.prog (Builtin.append_ #[ty_sl_uint8, ty_sl_uint8] ty_sl_uint8 #[r_1.v, b.v]) H10 fun (all : Sl) H11 => newC H11 (zc Tryd.prog ty_int) ty_int fun p_3 H12 => st H12 p_3 (.int .i64 (0 : Int)) fun H13 => slices_Chunk_sl_byte_byte.sp all (504 : Int) H13 fun (r_2 : Value) H14 => RangeVC Tryd.prog r_2 H14 (fun l rec vs H15 KK => onSome (Cods.dec [cSl] vs) fun (z : Sl) => H15[l]? = some (.loop (rec .ready none)) ∧ page_Seal.sp (3 : Int) z (H15.setIfInBounds l (.loop (rec .busy none))) fun (r_3 : (Sl × Int)) H16 => br (r_3.2 == (0 : Int)) (ld cPtr H16 p fun (x_7 : Option Addr) => ld cStr H16 p_1 fun (x_8 : ByteArray) => ld (cInt .i64) H16 p_3 fun (x_9 : Int) => disk_Disk_Write.sp x_7 x_8 x_9 r_3.1 H16 fun (e_2 : Int) H17 => br (e_2 != (0 : Int)) (st H17 p_2 (.int .i64 e_2) fun H18 => H18[l]? = some (.loop (rec .busy none)) ∧ KK false (H18.setIfInBounds l (.loop (rec .done (some .ret))))) (ld (cInt .i64) H17 p_3 fun (x_10 : Int) => st H17 p_3 (.int .i64 (IntKind.i64.wrap (x_10 + (1 : Int)))) fun H19 => H19[l]? = some (.loop (rec .busy none)) ∧ KK true (H19.setIfInBounds l (.loop (rec .ready none))))) (br (r_3.2 != (0 : Int)) (st H16 p_2 (.int .i64 r_3.2) fun H20 => H20[l]? = some (.loop (rec .busy none)) ∧ KK false (H20.setIfInBounds l (.loop (rec .done (some .ret))))) (ld (cInt .i64) H16 p_3 fun (x_11 : Int) => st H16 p_3 (.int .i64 (IntKind.i64.wrap (x_11 + (1 : Int)))) fun H21 => H21[l]? = some (.loop (rec .busy none)) ∧ KK true (H21.setIfInBounds l (.loop (rec .ready none)))))) (fun r_4 H22 => ld cPtr H22 p fun (x_12 : Option Addr) => ld cStr H22 p_1 fun (x_13 : ByteArray) => disk_Disk_Sync.sp x_12 x_13 H22 fun (r_5 : Int) H23 => st H23 p_2 (.int .i64 r_5) fun H24 => H24[r_4]? = some (.deferred (some [])) ∧ ld (cInt .i64) (H24.setIfInBounds r_4 (.deferred none)) p_2 fun (res_3 : Int) => R res_3 (H24.setIfInBounds r_4 (.deferred none))) (fun i r_4 H22 => bif Nat.beq i 0 then ld cPtr H22 p fun (x_14 : Option Addr) => ld cStr H22 p_1 fun (x_15 : ByteArray) => disk_Disk_Sync.sp x_14 x_15 H22 fun (r_6 : Int) H25 => st H25 p_2 (.int .i64 r_6) fun H26 => H26[r_4]? = some (.deferred (some [])) ∧ ld (cInt .i64) (H26.setIfInBounds r_4 (.deferred none)) p_2 fun (res_4 : Int) => R res_4 (H26.setIfInBounds r_4 (.deferred none)) else False) (fun r_4 H22 => H22[r_4]? = some (.deferred (some [])) ∧ ld (cInt .i64) (H22.setIfInBounds r_4 (.deferred none)) p_2 fun (res_5 : Int) => R res_5 (H22.setIfInBounds r_4 (.deferred none))))

/-- What lies still while pieces are written. -/
structure PutK (A : Heap) (p p1 c c1 : Addr) (d : Nat) (n : ByteArray) (all : Sl) (L : List UInt8) : Prop where
  vp : VarT A p ty_ptr_disk_Disk (.pointer (at0 d))
  vn : VarT A p1 ty_string (.string n)
  vc : VarT A c ty_sl_uint8 all.v
  vc1 : VarT A c1 ty_int (.int .i64 504)
  rd : SlE EB ty_uint8 A all L
def putX (p p1 c c1 : Addr) (all : Sl) (b : Nat) : Prop := b = p.block ∨ b = p1.block ∨ b = c.block ∨ b = c1.block ∨ ownB all b
theorem PutK.mod {A B : Heap} {p p1 c c1 : Addr} {d : Nat} {n : ByteArray} {all : Sl} {L : List UInt8} {F : Nat → Prop} (h : PutK A p p1 c c1 d n all L) (m : Mod F A B) (hn : ∀ b, putX p p1 c c1 all b → ¬ F b) : PutK B p p1 c c1 d n all L :=
  ⟨h.vp.mod m (hn _ (.inl rfl)), h.vn.mod m (hn _ (.inr (.inl rfl))), h.vc.mod m (hn _ (.inr (.inr (.inl rfl)))), h.vc1.mod m (hn _ (.inr (.inr (.inr (.inl rfl))))), h.rd.keep fun b hb hl => m.same b hl (hn b (.inr (.inr (.inr (.inr hb)))))⟩
theorem PutK.lt {A : Heap} {p p1 c c1 : Addr} {d : Nat} {n : ByteArray} {all : Sl} {L : List UInt8} (h : PutK A p p1 c c1 d n all L) : ∀ b, putX p p1 c c1 all b → b < A.size := by
  rintro b (q | q | q | q | q)
  · rw [q]; exact h.vp.lt
  · rw [q]; exact h.vn.lt
  · rw [q]; exact h.vc.lt
  · rw [q]; exact h.vc1.lt
  · exact h.rd.lt b q
theorem PutK.cells {A : Heap} {p p1 c c1 : Addr} {d : Nat} {n : ByteArray} {all : Sl} {L : List UInt8} (h : PutK A p p1 c c1 d n all L) : ∀ b, putX p p1 c c1 all b → ∃ cs t, A[b]? = some (.cells cs t (0, 0)) := by
  rintro b (q | q | q | q | q)
  · rw [q]; exact ⟨_, _, h.vp.obj⟩
  · rw [q]; exact ⟨_, _, h.vn.obj⟩
  · rw [q]; exact ⟨_, _, h.vc.obj⟩
  · rw [q]; exact ⟨_, _, h.vc1.obj⟩
  · obtain ⟨c, e⟩ := h.rd.obj b q; exact ⟨_, _, e⟩
theorem wr_snoc (n : ByteArray) (q : List UInt8) : ∀ (ps : List (List UInt8)) (k : Nat) (d : Dk), (wrPages n ps k d).2 = 0 → wrPages n (ps ++ [q]) k d = (wrPages n ps k d).1.write n ((k + ps.length : Nat) : Int) (sealP 3 q)
  | [], k, d, _ => by
    unfold wrPages
    simp only [List.nil_append, List.length_nil, Nat.add_zero]
    by_cases h : (d.write n k (sealP 3 q)).2 ≠ 0
    · unfold wrPages; rw [if_pos h]
    · unfold wrPages; rw [if_neg h]
      have h0 : (d.write n k (sealP 3 q)).2 = 0 := by omega
      show ((d.write n k (sealP 3 q)).1, (0 : Int)) = _
      rw [← h0]
  | p :: ps, k, d, h => by
    unfold wrPages at h
    by_cases hp : (d.write n k (sealP 3 p)).2 ≠ 0
    · rw [if_pos hp] at h; exact absurd h hp
    · rw [if_neg hp] at h
      have ih := wr_snoc n q ps (k + 1) _ h
      rw [List.cons_append]
      have e1 : wrPages n (p :: (ps ++ [q])) k d = wrPages n (ps ++ [q]) (k + 1) (d.write n k (sealP 3 p)).1 := by
        conv => lhs; unfold wrPages
        rw [if_neg hp]
      have e2 : wrPages n (p :: ps) k d = wrPages n ps (k + 1) (d.write n k (sealP 3 p)).1 := by
        conv => lhs; unfold wrPages
        rw [if_neg hp]
      rw [e1, e2, ih, List.length_cons]
      congr 2
      omega
/-- An error stays. -/
theorem wr_err (n : ByteArray) (r : List (List UInt8)) : ∀ (ps : List (List UInt8)) (k : Nat) (d : Dk), (wrPages n ps k d).2 ≠ 0 → wrPages n (ps ++ r) k d = wrPages n ps k d
  | [], k, d, h => by unfold wrPages at h; simp at h
  | p :: ps, k, d, h => by
    unfold wrPages at h
    rw [List.cons_append]
    by_cases hp : (d.write n k (sealP 3 p)).2 ≠ 0
    · conv => lhs; unfold wrPages
      conv => rhs; unfold wrPages
      rw [if_pos hp, if_pos hp]
    · rw [if_neg hp] at h
      conv => lhs; unfold wrPages
      conv => rhs; unfold wrPages
      rw [if_neg hp, if_neg hp]
      exact wr_err n r ps (k + 1) _ h
theorem wr_logs (n : ByteArray) : ∀ (ps : List (List UInt8)) (k : Nat) (d : Dk), (wrPages n ps k d).1.logs ≤ d.logs + ps.length
  | [], _, d => Nat.le_refl _
  | p :: ps, k, d => by
    have h1 := d.write_logs n k (sealP 3 p)
    have h2 := wr_logs n ps (k + 1) (d.write n k (sealP 3 p)).1
    unfold wrPages
    rw [List.length_cons]
    split <;> omega
end Go.Proofs.YtjjfngnokbboeaaDoor

/-
  Byte files put on a disk: the walk of 'Put'.
-/
namespace Go.Proofs.YtjjfngnokbboeaaDoor
open Go.MapKept

def putY (p p1 p2 p3 c c1 : Addr) (all : Sl) (l r2 : Nat) (b : Nat) : Prop := putX p p1 c c1 all b ∨ b = p2.block ∨ b = p3.block ∨ b = l ∨ b = r2
structure PutSep (HB : Heap) (F : Nat → Prop) (p p1 p2 p3 c c1 : Addr) (all : Sl) (l r2 : Nat) : Prop where
  x : ∀ b, putX p p1 c c1 all b → b ≠ p2.block ∧ b ≠ p3.block ∧ b ≠ l ∧ b ≠ r2
  a : p2.block ≠ p3.block ∧ p2.block ≠ l ∧ p2.block ≠ r2 ∧ p3.block ≠ l ∧ p3.block ≠ r2 ∧ l ≠ r2
  y : ∀ b, putY p p1 p2 p3 c c1 all l r2 b → HB.size ≤ b
  g : gSteps < HB.size ∧ ¬ F gSteps
/-- What stands between the rounds, apart from the loop's own record. -/
structure PutS (HB : Heap) (F : Nat → Prop) (p p1 p2 p3 c c1 : Addr) (d : Nat) (n : ByteArray) (all : Sl) (L : List UInt8) (l r2 : Nat) (s2 : Dk) (k : Nat) (A : Heap) : Prop where
  rr : A[r2]? = some (.deferred (some []))
  kk : PutK A p p1 c c1 d n all L
  v2 : VarT A p2 ty_api_Errno (.int .i64 0)
  v3 : VarT A p3 ty_int (.int .i64 (k : Int))
  gl : Gl A
  dk : ∃ Fk, DiskAt Fk A d (wrPages n ((pieces L).take k) 0 s2).1 ∧ Step F Fk HB A ∧ ∀ b, putY p p1 p2 p3 c c1 all l r2 b → ¬ Fk b
  ok : (wrPages n ((pieces L).take k) 0 s2).2 = 0
section
variable {HB : Heap} {F : Nat → Prop} {p p1 p2 p3 c c1 : Addr} {d : Nat} {n : ByteArray} {all : Sl} {L : List UInt8} {l r2 : Nat} {s2 : Dk} {k : Nat} {A B : Heap}
theorem PutS.mod {G : Nat → Prop} (h : PutS HB F p p1 p2 p3 c c1 d n all L l r2 s2 k A) (sp : PutSep HB F p p1 p2 p3 c c1 all l r2) (m : Mod G A B) (hG : ∀ b, G b → b = l) : PutS HB F p p1 p2 p3 c c1 d n all L l r2 s2 k B := by
  have h2 := sp.a
  have hg := sp.g
  have hl := sp.y l (.inr (.inr (.inr (.inl rfl))))
  obtain ⟨Fk, q1, q2, q3⟩ := h.dk
  refine ⟨(m.same _ (Array.getElem?_eq_some_iff.1 h.rr).1 fun q => ?_).trans h.rr, h.kk.mod m fun b hb q => ?_, h.v2.mod m fun q => ?_, h.v3.mod m fun q => ?_, h.gl.mod m fun q => ?_, ⟨Fk, q1.keep fun b hb hl2 => m.same b hl2 fun q => ?_, ⟨q2.mod.trans' m fun b hb q => ?_, q2.own⟩, q3⟩, h.ok⟩
  · have := hG _ q; omega
  · have := hG _ q; have := (sp.x b hb).2.2.1; omega
  · have := hG _ q; omega
  · have := hG _ q; omega
  · have := hG _ q; omega
  · have e := hG _ q
    subst e
    exact q3 b (.inr (.inr (.inr (.inl rfl)))) hb
  · have := hG _ q; omega
theorem PutS.extd (h : PutS HB F p p1 p2 p3 c c1 d n all L l r2 s2 k A) (sp : PutSep HB F p p1 p2 p3 c c1 all l r2) (m : Ext A B) : PutS HB F p p1 p2 p3 c c1 d n all L l r2 s2 k B := h.mod sp m fun _ q => q.elim
theorem PutS.set {o : Obj} (h : PutS HB F p p1 p2 p3 c c1 d n all L l r2 s2 k A) (sp : PutSep HB F p p1 p2 p3 c c1 all l r2) : PutS HB F p p1 p2 p3 c c1 d n all L l r2 s2 k (A.setIfInBounds l o) :=
  h.mod sp (G := fun b => b = l) (Mod.setObj rfl) fun _ q => q
end

theorem byts_keep {H H' : Heap} {s : Sl} {l : List UInt8} (h : Byts H s l) (k : l ≠ [] → ∀ ad, s.a = some ad → ad.block < H.size → H'[ad.block]? = H[ad.block]?) : Byts H' s l := by
  by_cases e : l = []
  · subst e; exact ⟨h.len, Reads.nil _ _⟩
  · exact h.keep (k e)
theorem zc_intM : zc Tryd.prog ty_int = #[.int .i64 0] := by kernel_rfl
theorem zc_errnoM : zc Tryd.prog ty_api_Errno = #[.int .i64 0] := by kernel_rfl
theorem pieces_at {L : List UInt8} {k : Nat} (hk : k < (pieces L).length) : (pieces L).take (k + 1) = (pieces L).take k ++ [(L.drop (504 * k)).take 504] := by
  have h2 : (pieces L)[k]? = some ((L.drop (504 * k)).take 504) := by
    rw [pieces_length] at hk
    simp [pieces, List.getElem?_range hk]
  rw [List.take_add_one, h2]; rfl

set_option maxHeartbeats 4000000 in
theorem putRest_ok {F F1 : Nat → Prop} {d : Nat} {s : Dk} {HB H6 : Heap} {p p1 p2 : Addr} {b : Sl} {lb : List UInt8} {n : ByteArray} {R : Int → Heap → Prop} (h : DiskAt F1 H6 d s) (S : Step F F1 HB H6)
    (hp : VarT H6 p ty_ptr_disk_Disk (.pointer (at0 d))) (hp1 : VarT H6 p1 ty_string (.string n)) (hp2 : VarT H6 p2 ty_api_Errno (.int .i64 0)) (b1 : HB.size ≤ p.block ∧ HB.size ≤ p1.block ∧ HB.size ≤ p2.block) (ne : p.block ≠ p2.block ∧ p1.block ≠ p2.block)
    (nF : ¬ F1 p.block ∧ ¬ F1 p1.block ∧ ¬ F1 p2.block) (hb : Byts HB b lb) (hbF : lb ≠ [] → ∀ ad, b.a = some ad → ¬ F ad.block) (hl : lb.length ≤ 900000) (hlog : s.logs ≤ 60000000000) (hg : Gl HB) (hgF : ¬ F gSteps)
    (hR : ∀ F' H', DiskAt F' H' d (s.make n lb).1 → Step F F' HB H' → R (s.make n lb).2 H') : putRest p p1 p2 b H6 R := by
  unfold putRest
  rw [zc_intM]
  refine hp.ld (c := cPtr) (x := at0 d) ?_
  refine hp1.ld (c := cStr) (x := n) ?_
  refine Create_ok h fun F2 H8 dk8 S8 => ?_
  have lp := hp.lt
  have lp1 := hp1.lt
  have lp2 := hp2.lt
  have nF2 : ¬ F2 p.block ∧ ¬ F2 p1.block ∧ ¬ F2 p2.block := ⟨fun q => (S8.own _ q).elim nF.1 (by omega), fun q => (S8.own _ q).elim nF.2.1 (by omega), fun q => (S8.own _ q).elim nF.2.2 (by omega)⟩
  have S08 := S.trans S8
  have vp := hp.mod S8.mod nF.1
  have vp1 := hp1.mod S8.mod nF.2.1
  have vp2 := hp2.mod S8.mod nF.2.2
  have z8 := S08.mod.size
  have z68 := S8.mod.size
  refine br_mk (fun hc => ?_) (fun hc => ?_)
  · refine vp2.st rfl fun H9 v9 m9 s9 => ?_
    refine v9.ld (c := cInt .i64) (x := (s.create n).2) ?_
    have hc' : (s.create n).2 ≠ 0 := by simpa using hc
    have := hR F2 H9 (by unfold Dk.make; rw [if_pos hc']; exact dk8.keep fun b hb _ => m9.same b (by have := dk8.lt b hb; omega) fun q => nF2.2.2 (q ▸ hb)) ⟨S08.mod.trans' m9 fun b hb q => by omega, S08.own⟩
    unfold Dk.make at this; rw [if_pos hc'] at this; exact this
  have hc' : (s.create n).2 = 0 := by simpa using hc
  have hn := hb.n
  have hu : IntKind.u64.wrap (b.n : Int) = ((lb.length : Nat) : Int) := by rw [hn, wrapU64]; omega
  rw [hu]
  refine bytesOf_ok (many := 8) (by decide) (by decide) fun r1 H10 o10 e10 f10 _ => ?_
  have hb10 : Byts H10 b lb := byts_keep hb fun hne ad ha hl2 => (e10.same _ (by omega) id).trans (S08.mod.same _ hl2 (hbF hne ad ha))
  refine SlE.append (E := EB) elByte (s := r1) (x := b) o10 (by rw [RdE, EB_all]; exact hb10.cells) hn (by simp; omega) (by simp; omega) fun all H11 oL g11 _ => ?_
  have eL : beN 8 lb.length ++ lb = allM lb := rfl
  rw [eL] at oL
  generalize hLd : allM lb = L at oL
  have hLl : L.length = 8 + lb.length := by rw [← hLd]; simp [allM]
  have e811 : Ext H8 H11 := ⟨Nat.le_trans e10.size g11.1.size, fun b hb _ => (g11.1.same b (Nat.lt_of_lt_of_le hb e10.size) fun q => by have := f10 b q; omega).trans (e10.same b hb id)⟩
  have bL : ∀ q, ownB all q → H8.size ≤ q := fun q hq => (g11.2 q hq).elim (f10 q) fun h => by have := e10.size; omega
  refine newC_varT fun p3 H12 hp3 s12 v3 e12 => ?_
  refine v3.st rfl fun H13 v3b m13 s13 => ?_
  have e1113 : Ext H11 H13 := (e12.mod (F := fun b => b = p3.block).trans m13).ext (fun b hb => by omega)
  refine Chunk_ok (by decide) fun c c1 H14 hcb hc1b s14 vc vc1 e14 => ?_
  have z11 := e811.size
  have z13 := e1113.size
  have hcallable : callable Tryd.prog slices_Chunk_sl_byte_byte_c1.no = true := by kernel_rfl
  refine ⟨slices_Chunk_sl_byte_byte_c1.no, #[.pointer (some c), .pointer (some c1)], rfl, hcallable, fun rec hround => ?_⟩
  obtain ⟨l, hl0⟩ : ∃ l, l = H14.size + 1 := ⟨_, rfl⟩
  obtain ⟨r2, hr2⟩ : ∃ r, r = H14.size := ⟨_, rfl⟩
  rw [← hl0] at hround ⊢
  rw [← hr2]
  obtain ⟨H15, hH15⟩ : ∃ H15 : Heap, H15 = (H14.push (.deferred (some []))).push (.loop (rec .ready none)) := ⟨_, rfl⟩
  rw [← hH15]
  have e15 : Ext H14 H15 := by rw [hH15]; exact (Mod.push _ _ _).trans (Mod.push _ _ _)
  have hl15 : H15[l]? = some (.loop (rec .ready none)) := by rw [hH15, hl0, Array.getElem?_push, if_pos (by simp)]
  have hr15 : H15[r2]? = some (.deferred (some [])) := by rw [hH15, hr2]; simp [Array.getElem?_push]
  have e815 : Ext H8 H15 := ((e811.trans e1113).trans e14).trans e15
  have hLn : all.n = L.length := oL.n (by decide)
  have hLb := SlB_byts oL
  have oL15 := ((oL.ext e1113).ext e14).ext e15
  have ltL : ∀ q, ownB all q → q < H11.size := oL.lt
  have sp : PutSep HB F p p1 p2 p3 c c1 all l r2 := by
    refine ⟨?_, by omega, ?_, hg.lt, hgF⟩
    · rintro q (h | h | h | h | h)
      · omega
      · omega
      · omega
      · omega
      · have := bL q h; have := ltL q h; omega
    · rintro q ((h | h | h | h | h) | h | h | h | h)
      · omega
      · omega
      · omega
      · omega
      · have := bL q h; omega
      · omega
      · omega
      · omega
      · omega
  have hlen := pieces_length L
  have hm : (pieces L).length = (all.n + (504 - 1)) / 504 := by rw [hlen, hLn]
  let I : Nat → Heap → Prop := fun k A => A[l]? = some (.loop (rec .ready none)) ∧ PutS HB F p p1 p2 p3 c c1 d n all L l r2 (s.create n).1 k A
  let D : Heap → Prop := fun A => A[l]? = some (.loop (rec .done (some .ret))) ∧ A[r2]? = some (.deferred (some [])) ∧ VarT A p2 ty_api_Errno (.int .i64 (wrPages n (pieces L) 0 (s.create n).1).2) ∧ (wrPages n (pieces L) 0 (s.create n).1).2 ≠ 0 ∧ ∃ Fk, DiskAt Fk A d (wrPages n (pieces L) 0 (s.create n).1).1 ∧ Step F Fk HB A ∧ ∀ b, putY p p1 p2 p3 c c1 all l r2 b → ¬ Fk b
  have hmake : s.make n lb = (s.create n).1.fill n lb := by unfold Dk.make; rw [if_neg (by simpa using hc')]
  refine Spec.mono (R := fun v H' => ∃ x : Unit, v = (cTup []).enc x ∧ rangeK l rec H' _ _ _) (Pieces_ok (l := l) (c := c) (c1 := c1) (p := all) (n := 504) (m := (pieces L).length) (H := H15) (K := fun _ H' => rangeK l rec H' _ _ _) I D (by decide) hm (Owns.cap oL) (by omega) (by decide) ?_ ?_ ?_ ?_ ?_) (fun v H' ⟨x, _, h⟩ => h)
  · rintro k A ⟨_, g⟩
    exact ⟨g.kk.vc, g.kk.vc1⟩
  · refine ⟨hl15, hr15, ⟨vp.ext e815, vp1.ext e815, vc.ext e15, vc1.ext e15, oL15⟩, vp2.ext e815, (v3b.ext e14).ext e15, ?_, ⟨F2, dk8.keep fun b hb hl2 => e815.same b hl2 id, ?_, ?_⟩, by simp [wrPages]⟩
    · exact (hg.mod S08.mod hgF).mod e815 id
    · exact ⟨S08.mod.trans' e815 fun _ _ q => q.elim, S08.own⟩
    · have hF2 := dk8.lt
      rintro q ((h | h | h | h | h) | h | h | h | h) hq
      · exact nF2.1 (h ▸ hq)
      · exact nF2.2.1 (h ▸ hq)
      · have := hF2 q hq; omega
      · have := hF2 q hq; omega
      · have := hF2 q hq; have := bL q h; omega
      · exact nF2.2.2 (h ▸ hq)
      · have := hF2 q hq; omega
      · have := hF2 q hq; omega
      · have := hF2 q hq; omega
  · -- a round
    rintro k A hk ⟨hlr, g⟩
    refine hround [(pieceS all 504 k).v] A _ hlr ?_
    clear hround
    show _ ∧ _
    refine ⟨hlr, ?_⟩
    obtain ⟨Ab, hAb⟩ : ∃ Ab : Heap, Ab = A.setIfInBounds l (.loop (rec .busy none)) := ⟨_, rfl⟩
    rw [← hAb]
    have gb : PutS HB F p p1 p2 p3 c c1 d n all L l r2 (s.create n).1 k Ab := by rw [hAb]; exact g.set sp
    have hlb : Ab[l]? = some (.loop (rec .busy none)) := by rw [hAb]; exact setObj_at hlr
    have hk5 : k * 504 < all.n := by rw [hlen] at hk; omega
    obtain ⟨pb, pa⟩ := piece_byts (SlB_byts gb.kk.rd) hk5
    have hpl : ((L.drop (504 * k)).take 504).length ≤ 504 := by rw [List.length_take]; omega
    refine Seal_ok (kind := 3) gb.gl pb hpl fun sq A1 oq eq bq => ?_
    refine br_mk (fun _ => ?_) (fun q => by simp at q)
    have g1 := gb.extd sp eq
    have hl1 : A1[l]? = some (.loop (rec .busy none)) := (eq.same l (Array.getElem?_eq_some_iff.1 hlb).1 id).trans hlb
    refine g1.kk.vp.ld (c := cPtr) (x := at0 d) ?_
    refine g1.kk.vn.ld (c := cStr) (x := n) ?_
    refine g1.v3.ld (c := cInt .i64) (x := (k : Int)) ?_
    obtain ⟨Fk, dk0, S0, nk⟩ := gb.dk
    have hFkb : ∀ b, Fk b → b < Ab.size := dk0.lt
    have dk1 := dk0.keep fun b hb hl2 => eq.same b hl2 id
    have S1 : Step F Fk HB A1 := ⟨S0.mod.trans' eq fun _ _ q => q.elim, S0.own⟩
    have hlg := wr_logs n ((pieces L).take k) 0 (s.create n).1
    have hlc := s.create_logs n
    have hkl : ((pieces L).take k).length ≤ 3000 := by rw [List.length_take]; omega
    refine Write_ok dk1 (SlB_byts oq) (fun ad ha hF => by have := hFkb _ hF; have := bq ad.block ⟨ad, ha, rfl⟩; omega) (by omega) fun F5 A2 dk2 S2 => ?_
    have hsn := wr_snoc n ((L.drop (504 * k)).take 504) ((pieces L).take k) 0 (s.create n).1 g1.ok
    have hkn : ((0 + ((pieces L).take k).length : Nat) : Int) = (k : Int) := by rw [List.length_take]; omega
    rw [hkn, ← pieces_at hk] at hsn
    rw [← hsn] at dk2 ⊢
    have S02 := S1.trans S2
    have nk2 : ∀ b, putY p p1 p2 p3 c c1 all l r2 b → b < A1.size → ¬ F5 b := fun b hb hl2 q => (S2.own b q).elim (nk b hb) fun h => by omega
    have yl : ∀ b, putY p p1 p2 p3 c c1 all l r2 b → b < A1.size := by
      rintro b (h | h | h | h | h)
      · exact g1.kk.lt b h
      · rw [h]; exact g1.v2.lt
      · rw [h]; exact g1.v3.lt
      · rw [h]; exact (Array.getElem?_eq_some_iff.1 hl1).1
      · rw [h]; exact (Array.getElem?_eq_some_iff.1 g1.rr).1
    have w2 := g1.v2.mod S2.mod (nk _ (.inr (.inl rfl)))
    have w3 := g1.v3.mod S2.mod (nk _ (.inr (.inr (.inl rfl))))
    have hl2 : A2[l]? = some (.loop (rec .busy none)) := (S2.mod.same l (yl _ (.inr (.inr (.inr (.inl rfl))))) (nk _ (.inr (.inr (.inr (.inl rfl)))))).trans hl1
    have hr2' : A2[r2]? = some (.deferred (some [])) := (S2.mod.same r2 (yl _ (.inr (.inr (.inr (.inr rfl))))) (nk _ (.inr (.inr (.inr (.inr rfl)))))).trans g1.rr
    have ha := sp.a
    have hy := sp.y
    have y2 := hy _ (.inr (.inl rfl))
    have y3 := hy _ (.inr (.inr (.inl rfl)))
    have yL := hy _ (.inr (.inr (.inr (.inl rfl))))
    refine br_mk (fun hc => ?_) (fun hc => ?_)
    · have hc' : (wrPages n ((pieces L).take (k + 1)) 0 (s.create n).1).2 ≠ 0 := by simpa using hc
      have hall : wrPages n (pieces L) 0 (s.create n).1 = wrPages n ((pieces L).take (k + 1)) 0 (s.create n).1 := by
        have := wr_err n ((pieces L).drop (k + 1)) ((pieces L).take (k + 1)) 0 (s.create n).1 hc'
        rwa [List.take_append_drop] at this
      refine w2.st rfl fun A3 v3' m3 s3 => ?_
      have hl3 : A3[l]? = some (.loop (rec .busy none)) := (m3.same l (Array.getElem?_eq_some_iff.1 hl2).1 (by omega)).trans hl2
      refine ⟨hl3, ?_⟩
      show D _
      have m4 : Mod (fun b => b = l) A3 (A3.setIfInBounds l (.loop (rec .done (some .ret)))) := Mod.setObj rfl
      have m34 : Mod (fun b => b = p2.block ∨ b = l) A2 (A3.setIfInBounds l (.loop (rec .done (some .ret)))) := (m3.mono (fun b _ h => .inl h)).trans (m4.mono (fun b _ h => .inr h))
      refine ⟨setObj_at hl3, (m34.same r2 (Array.getElem?_eq_some_iff.1 hr2').1 (by omega)).trans hr2', by rw [hall]; exact v3'.mod m4 (by omega), by rw [hall]; exact hc', F5, ?_, ?_, ?_⟩
      · rw [hall]
        refine dk2.keep fun b hb hl4 => m34.same b hl4 ?_
        rintro (q | q)
        · exact nk2 b (.inr (.inl q)) (yl b (.inr (.inl q))) hb
        · exact nk2 b (.inr (.inr (.inr (.inl q)))) (yl b (.inr (.inr (.inr (.inl q))))) hb
      · exact ⟨S02.mod.trans' m34 fun b hb q => by rcases q with q | q <;> omega, S02.own⟩
      · exact fun b hb => nk2 b hb (yl b hb)
    · have hc' : (wrPages n ((pieces L).take (k + 1)) 0 (s.create n).1).2 = 0 := by simpa using hc
      refine w3.ld (c := cInt .i64) (x := (k : Int)) ?_
      refine w3.st rfl fun A3 v3' m3 s3 => ?_
      have hl3 : A3[l]? = some (.loop (rec .busy none)) := (m3.same l (Array.getElem?_eq_some_iff.1 hl2).1 (by omega)).trans hl2
      refine ⟨hl3, ?_⟩
      show I (k + 1) _
      refine ⟨setObj_at hl3, PutS.set ?_ sp⟩
      rw [succ64 k (by omega)] at v3'
      refine ⟨(m3.same r2 (Array.getElem?_eq_some_iff.1 hr2').1 (by omega)).trans hr2', (g1.kk.mod S2.mod fun b hb => nk b (.inl hb)).mod m3 fun b hb => (sp.x b hb).2.1, w2.mod m3 (by omega), v3', ?_, ⟨F5, ?_, ?_, fun b hb => nk2 b hb (yl b hb)⟩, hc'⟩
      · refine (g1.gl.mod S2.mod fun q => ?_).mod m3 (by have := sp.g; omega)
        have hg2 := sp.g
        rcases S1.own _ q with q | q
        · exact hg2.2 q
        · omega
      · exact dk2.keep fun b hb hl4 => m3.same b hl4 fun q => nk2 b (.inr (.inr (.inl q))) (yl b (.inr (.inr (.inl q)))) hb
      · exact ⟨S02.mod.trans' m3 fun b hb q => by omega, S02.own⟩
  · -- all is written
    clear hround
    rintro A ⟨hlr, g⟩
    refine ⟨.ready, none, hlr, rfl, ?_⟩
    obtain ⟨A1, hA1⟩ : ∃ A1 : Heap, A1 = A.setIfInBounds l (.loop (rec .exhausted none)) := ⟨_, rfl⟩
    show ld _ _ _ _
    rw [← hA1]
    have g1 : PutS HB F p p1 p2 p3 c c1 d n all L l r2 (s.create n).1 (pieces L).length A1 := by rw [hA1]; exact g.set sp
    have hok := g1.ok
    obtain ⟨Fk, dk1, S1, nk⟩ := g1.dk
    rw [List.take_length] at hok dk1
    refine g1.kk.vp.ld (c := cPtr) (x := at0 d) ?_
    refine g1.kk.vn.ld (c := cStr) (x := n) ?_
    refine Sync_ok dk1 fun F5 A2 dk2 S2 => ?_
    have S02 := S1.trans S2
    have w2 := g1.v2.mod S2.mod (nk _ (.inr (.inl rfl)))
    have hr2' : A2[r2]? = some (.deferred (some [])) := (S2.mod.same r2 (Array.getElem?_eq_some_iff.1 g1.rr).1 (nk _ (.inr (.inr (.inr (.inr rfl)))))).trans g1.rr
    have ha := sp.a
    have y2 := sp.y _ (.inr (.inl rfl))
    have yr := sp.y _ (.inr (.inr (.inr (.inr rfl))))
    refine w2.st rfl fun A3 v3' m3 s3 => ?_
    have hr3 : A3[r2]? = some (.deferred (some [])) := (m3.same r2 (Array.getElem?_eq_some_iff.1 hr2').1 (by omega)).trans hr2'
    refine ⟨hr3, ?_⟩
    have m4 : Mod (fun b => b = r2) A3 (A3.setIfInBounds r2 (.deferred none)) := Mod.setObj rfl
    have m34 : Mod (fun b => b = p2.block ∨ b = r2) A2 (A3.setIfInBounds r2 (.deferred none)) := (m3.mono (fun b _ h => .inl h)).trans (m4.mono (fun b _ h => .inr h))
    have hfill : (s.create n).1.fill n lb = (wrPages n (pieces L) 0 (s.create n).1).1.sync n := by unfold Dk.fill; rw [hLd, if_neg (by simpa using hok)]
    refine (v3'.mod m4 (by omega)).ld (c := cInt .i64) (x := ((wrPages n (pieces L) 0 (s.create n).1).1.sync n).2) ?_
    have := hR F5 _ (by
      rw [hmake, hfill]
      refine dk2.keep fun b hb hl4 => m34.same b hl4 ?_
      rintro (q | q)
      · exact (S2.own b hb).elim (nk b (.inr (.inl q))) fun h => by have := g1.v2.lt; omega
      · exact (S2.own b hb).elim (nk b (.inr (.inr (.inr (.inr q))))) fun h => by have := (Array.getElem?_eq_some_iff.1 g1.rr).1; omega) ⟨S02.mod.trans' m34 fun b hb q => by rcases q with q | q <;> omega, S02.own⟩
    rw [hmake, hfill] at this
    exact this
  · -- an error
    clear hround
    rintro A ⟨hlr, hrr, v2, hne, Fk, dk1, S1, nk⟩
    refine ⟨.done, some .ret, hlr, rfl, ?_⟩
    obtain ⟨A1, hA1⟩ : ∃ A1 : Heap, A1 = A.setIfInBounds l (.loop (rec .exhausted (some .ret))) := ⟨_, rfl⟩
    show _ ∧ _
    rw [← hA1]
    have m1 : Mod (fun b => b = l) A A1 := by rw [hA1]; exact Mod.setObj rfl
    have ha := sp.a
    have yl := sp.y _ (.inr (.inr (.inr (.inl rfl))))
    have yr := sp.y _ (.inr (.inr (.inr (.inr rfl))))
    have hr1 : A1[r2]? = some (.deferred (some [])) := (m1.same r2 (Array.getElem?_eq_some_iff.1 hrr).1 (by omega)).trans hrr
    refine ⟨hr1, ?_⟩
    have m2 : Mod (fun b => b = r2) A1 (A1.setIfInBounds r2 (.deferred none)) := Mod.setObj rfl
    have m12 : Mod (fun b => b = l ∨ b = r2) A (A1.setIfInBounds r2 (.deferred none)) := (m1.mono (fun b _ h => .inl h)).trans (m2.mono (fun b _ h => .inr h))
    refine (v2.mod m12 (by omega)).ld (c := cInt .i64) (x := (wrPages n (pieces L) 0 (s.create n).1).2) ?_
    have hfill : (s.create n).1.fill n lb = wrPages n (pieces L) 0 (s.create n).1 := by unfold Dk.fill; rw [hLd, if_pos hne]
    have := hR Fk _ (by
      rw [hmake, hfill]
      refine dk1.keep fun b hb hl4 => m12.same b hl4 ?_
      rintro (q | q)
      · exact nk b (.inr (.inr (.inr (.inl q)))) hb
      · exact nk b (.inr (.inr (.inr (.inr q)))) hb) ⟨S1.mod.trans' m12 fun b hb q => by rcases q with q | q <;> omega, S1.own⟩
    rw [hmake, hfill] at this
    exact this
theorem Put_none {n : ByteArray} {b : Sl} {H : Heap} {K : Int → Heap → Prop} (hK : ∀ H', Ext H H' → K 1 H') : manifest_Put.sp none n b H K := by
  refine manifest_Put.of ?_
  unfold manifest_Put.vc
  rw [zc_errnoM]
  refine newC_varT fun p H1 hp s1 v1 e1 => ?_
  refine newC_varT fun p1 H2 hp1 s2 v2 e2 => ?_
  refine newC_varT fun p2 H3 hp2 s3 v3 e3 => ?_
  refine ((v1.ext e2).ext e3).ld (c := cPtr) (x := none) ?_
  refine br_mk (fun _ => ?_) (fun q => by simp at q)
  refine v3.st rfl fun H4 v4 m4 s4 => ?_
  refine v4.ld (c := cInt .i64) (x := 1) ?_
  exact hK H4 (((Ext.mod (F := fun b => b = p2.block) ((e1.trans e2).trans e3)).trans m4).ext fun b hb => by omega)
theorem Put_ok {F : Nat → Prop} {d : Nat} {s : Dk} {H : Heap} {b : Sl} {lb : List UInt8} {n : ByteArray} {K : Int → Heap → Prop} (h : DiskAt F H d s)
    (hb : Byts H b lb) (hbF : lb ≠ [] → ∀ ad, b.a = some ad → ¬ F ad.block) (hl : lb.length ≤ 900000) (hlog : s.logs ≤ 60000000000) (hg : Gl H) (hgF : ¬ F gSteps)
    (hK : ∀ F' H', DiskAt F' H' d (s.putM n lb).1 → Step F F' H H' → K (s.putM n lb).2 H') : manifest_Put.sp (at0 d) n b H K := by
  refine manifest_Put.of ?_
  unfold manifest_Put.vc
  rw [zc_errnoM]
  refine newC_varT fun p H1 hp s1 v1 e1 => ?_
  refine newC_varT fun p1 H2 hp1 s2 v2 e2 => ?_
  refine newC_varT fun p2 H3 hp2 s3 v3 e3 => ?_
  have w1 := (v1.ext e2).ext e3
  have w2 := v2.ext e3
  have e03 : Ext H H3 := (e1.trans e2).trans e3
  have dk3 := h.keep fun b _ hl2 => e03.same b hl2 id
  have hlt := h.lt
  have nF : ¬ F p.block ∧ ¬ F p1.block ∧ ¬ F p2.block := ⟨fun q => by have := hlt _ q; omega, fun q => by have := hlt _ q; omega, fun q => by have := hlt _ q; omega⟩
  have S3 : Step F F H H3 := ⟨Ext.mod e03, fun _ q => .inl q⟩
  refine w1.ld (c := cPtr) (x := at0 d) ?_
  refine br_mk (fun q => by simp [at0] at q) (fun _ => ?_)
  refine w1.ld (c := cPtr) (x := at0 d) ?_
  refine w2.ld (c := cStr) (x := n) ?_
  refine Len_ok dk3 ?_
  refine br_mk (fun hc => ?_) (fun hc => ?_)
  · have hc' : (s.len n).2 = 0 := by simpa using hc
    have hcl : s.clear n = s.remove n := by unfold Dk.clear; rw [if_pos hc']
    refine w1.ld (c := cPtr) (x := at0 d) ?_
    refine w2.ld (c := cStr) (x := n) ?_
    refine Remove_ok dk3 fun F6 H6 dk6 S6 => ?_
    have S06 := S3.trans S6
    have q1 := w1.mod S6.mod nF.1
    have q2 := w2.mod S6.mod nF.2.1
    have q3 := v3.mod S6.mod nF.2.2
    have nF6 : ¬ F6 p.block ∧ ¬ F6 p1.block ∧ ¬ F6 p2.block := ⟨fun q => (S6.own _ q).elim nF.1 (by omega), fun q => (S6.own _ q).elim nF.2.1 (by omega), fun q => (S6.own _ q).elim nF.2.2 (by omega)⟩
    refine br_mk (fun hd => ?_) (fun hd => ?_)
    · have hd' : (s.remove n).2 ≠ 0 := by simpa using hd
      have hp' : s.putM n lb = s.remove n := by unfold Dk.putM; rw [hcl, if_pos hd']
      refine q3.st rfl fun H7 v7 m7 s7 => ?_
      refine v7.ld (c := cInt .i64) (x := (s.remove n).2) ?_
      have := hK F6 H7 (by rw [hp']; exact dk6.keep fun b hb hl2 => m7.same b hl2 fun q => nF6.2.2 (q ▸ hb)) ⟨S06.mod.trans' m7 fun b hb q => by omega, S06.own⟩
      rwa [hp'] at this
    · have hd' : ¬ (s.remove n).2 ≠ 0 := by simpa using hd
      have hp' : s.putM n lb = (s.remove n).1.make n lb := by unfold Dk.putM; rw [hcl, if_neg hd']
      have hlg := s.remove_logs n
      show putRest p p1 p2 b H6 K
      refine putRest_ok dk6 S06 q1 q2 q3 (by omega) (by omega) nF6 hb hbF hl (by omega) hg hgF fun F' H' a1 a2 => ?_
      have := hK F' H' (by rw [hp']; exact a1) a2
      rwa [hp'] at this
  · have hc' : ¬ (s.len n).2 = 0 := by simpa using hc
    have hp' : s.putM n lb = s.make n lb := by unfold Dk.putM Dk.clear; rw [if_neg hc']; rfl
    show putRest p p1 p2 b H3 K
    refine putRest_ok dk3 S3 w1 w2 v3 (by omega) (by omega) nF hb hbF hl hlog hg hgF fun F' H' a1 a2 => ?_
    have := hK F' H' (by rw [hp']; exact a1) a2
    rwa [hp'] at this
end Go.Proofs.YtjjfngnokbboeaaDoor

/-
  Byte files read back from a disk: the walk of 'Get'.
-/
namespace Go.Proofs.YtjjfngnokbboeaaDoor
open Go.MapKept

theorem Dk.opened {s : Dk} {n : ByteArray} (w : s.WF) (h : (s.len n).2 = 0) : (s.len n).1 = (s.pgs n).length ∧ (∀ (j : Nat) p, (s.pgs n)[j]? = some p → s.read n (j : Int) = (p, 0)) ∧ (∀ p ∈ s.pgs n, p.length = 512) ∧ (s.pgs n).length ≤ 1048576 := by
  unfold Dk.len at h ⊢
  unfold Dk.pgs Dk.read
  unfold Dk.open at h ⊢
  by_cases hd : s.down
  · rw [if_pos hd] at h; simp at h
  rw [if_neg hd] at h ⊢
  cases hi : s.idx n with
  | none => rw [hi] at h; simp at h
  | some i =>
    simp only
    obtain ⟨hil, _⟩ := List.findIdx?_eq_some_iff_getElem.1 hi
    have hf : s.files[i]? = some (s.file i) := by
      unfold Dk.file
      rw [List.getD, List.getElem?_eq_getElem hil]; rfl
    have hu := le_sum (fun f : Fl => f.pages.length) s.files i _ hf
    refine ⟨by simp, fun j p hj => ?_, fun p hp => ?_, ?_⟩
    · rw [if_neg (by omega), Int.toNat_natCast]
      rw [List.getElem?_map] at hj
      cases hq : (s.file i).pages[j]? with
      | none => rw [hq] at hj; cases hj
      | some q => rw [hq] at hj; cases hj; rfl
    · obtain ⟨q, _, rfl⟩ := List.mem_map.1 hp
      exact q.2
    · have h1 := w.used
      have h2 := w.most
      have h3 := w.quota
      have h4 : (s.files.map fun f => f.pages.length).sum = s.used := rfl
      rw [List.length_map]
      omega
def flagG (k : Nat) (li : List (UInt8 × List UInt8)) : Bool := if li.length < k then li.all (fun x => decide (x.1 = 3) && decide (x.2.length = 504)) else wholeP li
theorem whole_snoc (l : List (UInt8 × List UInt8)) (x : UInt8 × List UInt8) : wholeP (l ++ [x]) = (l.all (fun x => decide (x.1 = 3) && decide (x.2.length = 504)) && (decide (x.1 = 3) && decide (0 < x.2.length))) := by
  unfold wholeP
  rw [List.dropLast_concat, List.drop_left' (by simp)]
  simp
theorem flagG_step {k : Nat} {li : List (UInt8 × List UInt8)} {x : UInt8 × List UInt8} (h : li.length < k) : flagG k (li ++ [x]) = (((flagG k li && decide (x.1 = 3)) && decide (0 < x.2.length)) && (decide (x.2.length = 504) || decide (li.length + 1 = k))) := by
  unfold flagG
  rw [if_pos h, List.length_append, List.length_singleton]
  by_cases hk : li.length + 1 = k
  · rw [if_neg (by omega), whole_snoc]
    simp [hk, Bool.and_assoc]
  · rw [if_pos (by omega), List.all_append]
    simp only [List.all_cons, List.all_nil, Bool.and_true, hk, decide_false, Bool.or_false]
    by_cases h5 : x.2.length = 504
    · simp [h5, Bool.and_assoc]
    · simp [h5]
theorem bytesP_snoc (l : List (UInt8 × List UInt8)) (x : UInt8 × List UInt8) : bytesP (l ++ [x]) = bytesP l ++ x.2 := by simp [bytesP]
theorem tellP_snoc {l : List (List UInt8)} {p : List UInt8} {r : List (UInt8 × List UInt8)} {x : UInt8 × List UInt8} (h : tellP l = some r) (hx : openP p = some x) : tellP (l ++ [p]) = some (r ++ [x]) := by
  unfold tellP at h ⊢
  rw [List.mapM_append, h]
  simp [hx]
theorem tellP_none {l : List (List UInt8)} {p : List UInt8} (hp : p ∈ l) (hx : openP p = none) : tellP l = none := by
  unfold tellP
  induction l with
  | nil => cases hp
  | cons q l ih =>
    rw [List.mapM_cons]
    rcases List.mem_cons.1 hp with e | e
    · rw [← e, hx]; rfl
    · rw [ih e]
      cases openP q <;> rfl
theorem Get_none {n : ByteArray} {H : Heap} {K : (Sl × Int) → Heap → Prop} (hK : K (Sl.mk none 0 0, 1) H) : manifest_Get.sp none n H K := by
  refine manifest_Get.of ?_
  unfold manifest_Get.vc
  exact br_mk (fun _ => hK) (fun q => by simp at q)
theorem Get_ok {F : Nat → Prop} {d : Nat} {s : Dk} {H : Heap} {n : ByteArray} {K : (Sl × Int) → Heap → Prop} (h : DiskAt F H d s) (hg : Gl H)
    (hK : ∀ r H', Byts H' r (s.getM n).1 → (s.getM n).1.length ≤ 1000000000 → r.n ≤ r.c → (∀ ad, r.a = some ad → H.size ≤ ad.block) → Ext H H' → K (r, (s.getM n).2) H') : manifest_Get.sp (at0 d) n H K := by
  have hw := h.wf
  have bad : ∀ e : Int, s.getM n = ([], e) → ∀ A, Ext H A → K (Sl.mk none 0 0, e) A := by
    intro e he A hA
    have := hK (Sl.mk none 0 0) A (by rw [he]; exact byts0 A) (by rw [he]; simp) (Nat.le_refl _) (by rintro ad q; cases q) hA
    rwa [he] at this
  refine manifest_Get.of ?_
  unfold manifest_Get.vc
  refine br_mk (fun q => by simp [at0] at q) (fun _ => ?_)
  refine Len_ok h ?_
  refine br_mk (fun hc => ?_) (fun hc => ?_)
  · have hc' : (s.len n).2 ≠ 0 := by simpa using hc
    exact bad _ (by unfold Dk.getM; rw [if_pos hc']) H (.refl _ _)
  have hc' : (s.len n).2 = 0 := by simpa using hc
  obtain ⟨hk, hrd, h512, hbig⟩ := Dk.opened hw hc'
  have hM : s.getM n = match tellP (s.pgs n) with | none => ([], 20) | some l => foundP l := by
    unfold Dk.getM; rw [if_neg (by simpa using hc')]; rfl
  generalize hP : s.pgs n = P at *
  rw [hk]
  refine loop_upto P.length (fun i z A => ∃ li all, tellP (P.take i) = some li ∧ li.length = i ∧ (∀ x ∈ li, x.2.length ≤ 504) ∧ z = (all, flagG P.length li, (i : Int)) ∧ SlE EB ty_uint8 A all (bytesP li) ∧ Ext H A ∧ ∀ b, ownB all b → H.size ≤ b) ⟨[], Sl.mk none 0 0, rfl, rfl, by simp, ?_, SlE.nil _ _ _, .refl _ _, by rintro b ⟨ad, q, _⟩; cases q⟩ ?_
  · have : flagG P.length [] = true := by unfold flagG; split <;> rfl
    rw [this]; rfl
  rintro i z A next hi ⟨li, all, ht, hli, h5, rfl, oA, eA, bA⟩ hnext
  have hbl : ∀ l : List (UInt8 × List UInt8), (∀ x ∈ l, x.2.length ≤ 504) → (bytesP l).length ≤ 504 * l.length := by
    intro l
    induction l with
    | nil => intro _; simp [bytesP]
    | cons x l ih =>
      intro hl
      have h1 := ih fun y hy => hl y (List.mem_cons_of_mem _ hy)
      have h2 := hl x List.mem_cons_self
      have e : bytesP (x :: l) = x.2 ++ bytesP l := rfl
      rw [e, List.length_append, List.length_cons]; omega
  have hb1 := hbl li h5
  have hAn : all.n = (bytesP li).length := oA.n (by decide)
  refine br_mk (fun hc => ?_) (fun hc => ?_)
  · have hlt : i < P.length := by
      have : (i : Int) < (P.length : Int) := by simpa using hc
      omega
    have hp : P[i]? = some P[i] := List.getElem?_eq_getElem hlt
    have hpm : P[i] ∈ P := List.getElem_mem hlt
    have hr := hrd i _ hp
    refine Read_ok (h.keep fun b _ hl => eA.same b hl id) fun r A1 o1 e1 f1 => ?_
    rw [hr] at o1 ⊢
    refine br_mk (fun q => by simp at q) (fun _ => ?_)
    have e01 : Ext H A1 := Mod.trans eA e1
    refine Open_ok (hg.mod e01 id) (SlB_byts o1) (by rw [h512 _ hpm]; decide) (Owns.cap o1) (fun q => absurd (h512 _ hpm) q) (fun _ hx => ?_) (fun kd b s' A2 _ hx hb5 o2 e2 f2 => ?_)
    · refine br_mk (fun _ => ?_) (fun q => by simp at q)
      exact bad 20 (by rw [hM, tellP_none hpm hx]) A1 e01
    · refine br_mk (fun q => by simp at q) (fun _ => ?_)
      have oA2 := (oA.ext e1).ext e2
      have e02 : Ext H A2 := Mod.trans e01 e2
      refine SlE.append (E := EB) elByte (s := all) (x := s') oA2 o2.rd (o2.n (by decide)) (by omega) (by omega) fun all2 A3 o3 g3 _ => ?_
      have e03 : Ext H A3 := ⟨Nat.le_trans e02.size g3.1.size, fun b hb _ => (g3.1.same b (Nat.lt_of_lt_of_le hb e02.size) fun q => by have := bA b q; omega).trans (e02.same b hb id)⟩
      refine hnext hlt _ _ ⟨li ++ [(kd, b)], all2, ?_, by simp [hli], ?_, ?_, by rw [bytesP_snoc]; exact o3, e03, fun b hb => (g3.2 b hb).elim (bA b) fun q => by have := e02.size; omega⟩
      · rw [List.take_add_one, hp]
        exact tellP_snoc ht hx
      · intro x hx
        rcases List.mem_append.1 hx with q | q
        · exact h5 x q
        · simp at q; rw [q]; exact hb5
      · rw [flagG_step (by omega), succ64 i (by omega), o2.n (by decide)]
        have e3 : ((kd.toNat : Int) == 3) = decide (kd = 3) := by
          rw [Bool.eq_iff_iff]
          simp only [beq_iff_eq, decide_eq_true_eq]
          refine ⟨fun q => UInt8.toNat_inj.1 (by have : (3 : UInt8).toNat = 3 := rfl
                                                 omega), fun q => by rw [q]; rfl⟩
        have e4 : (decide ((b.length : Int) > 0)) = decide (0 < b.length) := by
          rw [Bool.eq_iff_iff]; simp only [decide_eq_true_eq]; omega
        have e5 : (((b.length : Nat) : Int) == 504) = decide (b.length = 504) := by
          rw [Bool.eq_iff_iff]; simp only [beq_iff_eq, decide_eq_true_eq]; omega
        have e6 : ((i : Int) == IntKind.i64.wrap ((P.length : Int) - 1)) = decide (li.length + 1 = P.length) := by
          rw [wrap64 (by omega) (by omega), Bool.eq_iff_iff]; simp only [beq_iff_eq, decide_eq_true_eq]; omega
        simp only [e3, e4, e5, e6]
  · have hge : i = P.length := by
      have : ¬ (i : Int) < (P.length : Int) := by simpa using hc
      omega
    rw [hge, List.take_length] at ht
    have hfl : flagG P.length li = wholeP li := by unfold flagG; rw [if_neg (by omega)]
    rw [hfl]
    have hM2 : s.getM n = foundP li := by rw [hM, ht]
    refine br_mk (fun q => ?_) (fun q => ?_)
    · refine bad 280 ?_ A eA
      rw [hM2]
      unfold foundP
      rw [if_neg]
      rintro ⟨q1, q2, _⟩
      rw [q1, hAn] at q
      simp at q; omega
    · rw [hAn] at q
      have q : wholeP li = true ∧ ¬ (bytesP li).length < 8 := by
        simp at q
        exact ⟨q.1, by omega⟩
      have hcap := Owns.cap oA
      refine ⟨⟨by decide, by show (8 : Int) ≤ (all.c : Int); omega⟩, ?_⟩
      have hb0 := SlB_byts oA
      have e0 : slA all.a all.c 0 1 = all.a := by
        unfold slA
        split
        · rfl
        · cases all.a <;> rfl
      rw [e0]
      refine numberOf_ok (l := (bytesP li).take 8) (hb0.take 8 (by omega) _) (by rw [List.length_take]; omega) ?_
      have hwr : IntKind.u64.wrap (IntKind.i64.wrap ((all.n : Int) - 8)) = (((bytesP li).length - 8 : Nat) : Int) := by
        rw [hAn, wrap64 (by omega) (by omega), wrapU64]; omega
      rw [hwr]
      refine br_mk (fun p => ?_) (fun p => ?_)
      · refine bad 280 ?_ A eA
        rw [hM2]
        unfold foundP
        rw [if_neg]
        rintro ⟨_, _, q3⟩
        rw [q3] at p; simp at p
      · have p : deN ((bytesP li).take 8) = (bytesP li).length - 8 := by
          have : ((deN ((bytesP li).take 8) : Nat) : Int) = (((bytesP li).length - 8 : Nat) : Int) := by simpa using p
          omega
        have hM3 : s.getM n = ((bytesP li).drop 8, 0) := by
          rw [hM2]; unfold foundP; rw [if_pos ⟨q.1, by omega, p⟩]
        refine ⟨⟨by decide, by show (8 : Int) ≤ (all.n : Int); omega⟩, ?_⟩
        have := hK (Sl.mk (slA all.a all.c 8 1) (all.n - 8) (all.c - 8)) A (by rw [hM3]; exact hb0.drop hcap 8) (by rw [hM3, List.length_drop]; omega) (by show all.n - 8 ≤ all.c - 8; omega) (fun ad ha => ?_) eA
        · rw [hM3] at this; exact this
        · unfold slA at ha
          split at ha
          · exact bA ad.block ⟨ad, ha, rfl⟩
          · cases hq : all.a with
            | none => simp only at ha; rw [hq] at ha; cases ha
            | some a0 => simp only at ha; rw [hq] at ha; cases ha; exact bA _ ⟨a0, hq, (add_block _ _).symm⟩
end Go.Proofs.YtjjfngnokbboeaaDoor
