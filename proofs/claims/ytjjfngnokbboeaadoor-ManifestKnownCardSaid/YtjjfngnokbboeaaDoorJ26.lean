/-
  Pages: the walk of their sum, of what seals them, of what opens them.
-/
import Derived.Laws.CopyRow
import Derived.Laws.IdiomCopy
import Derived.Test.YtjjfngnokbboeaaDoorJ16
import Derived.Test.YtjjfngnokbboeaaDoorDkg
namespace Go.Proofs.YtjjfngnokbboeaaDoor

/-! ### Words of 32 bits -/

theorem toNat32 (a : BitVec 32) : BitVec.ofInt 32 (a.toNat : Int) = a := by
  rw [BitVec.ofInt_natCast, BitVec.ofNat_toNat, BitVec.setWidth_eq]
theorem wrap32 {n : Nat} (h : n < 4294967296) : IntKind.u32.wrap (n : Int) = (n : Int) := by
  simp [IntKind.wrap, IntKind.bits, IntKind.signed]; omega
theorem wrap8 (n : Nat) : IntKind.u8.wrap (n : Int) = ((UInt8.ofNat n).toNat : Int) := by
  rw [UInt8.toNat_ofNat']
  simp [IntKind.wrap, IntKind.bits, IntKind.signed]
theorem ixor32 (a b : BitVec 32) : ixor .u32 (a.toNat : Int) (b.toNat : Int) = ((a ^^^ b).toNat : Int) := by
  unfold ixor
  show IntKind.u32.wrap ((BitVec.ofInt 32 (a.toNat : Int) ^^^ BitVec.ofInt 32 (b.toNat : Int)).toNat : Int) = _
  rw [toNat32, toNat32]
  exact wrap32 (a ^^^ b).isLt
theorem iand15 (a : BitVec 32) : iand .u32 (a.toNat : Int) 15 = ((a.toNat % 16 : Nat) : Int) := by
  unfold iand
  show IntKind.u32.wrap ((BitVec.ofInt 32 (a.toNat : Int) &&& 15#32).toNat : Int) = _
  rw [toNat32, low15]
  rw [BitVec.toNat_ofNat]
  have : a.toNat % 16 % 2 ^ 32 = a.toNat % 16 := by omega
  rw [this]
  exact wrap32 (by omega)
theorem ishr32 (a : BitVec 32) (k : Nat) (hk : k ≤ 32) : ishr .u32 (a.toNat : Int) (k : Int) = ((a.toNat / 2 ^ k : Nat) : Int) := by
  unfold ishr
  have : min (k : Int).toNat IntKind.u32.bits = k := by
    show min (k : Int).toNat 32 = k
    omega
  rw [this, Int.fdiv_eq_ediv_of_nonneg _ (Int.pow_nonneg (by decide)), Int.natCast_ediv, Int.natCast_pow]
  rfl

/-- The table that the sum reads. -/
def gSteps : Nat := 1
def Gl (H : Heap) : Prop := ∀ i, i < 16 → hCell H ⟨gSteps, i, none⟩ = some (.int .u32 ((stepsL.getD i 0#32).toNat : Int))
theorem Gl.lt {H : Heap} (h : Gl H) : gSteps < H.size := hCell_lt (h 0 (by decide))
theorem Gl.keep {H H' : Heap} (h : Gl H) (k : H'[gSteps]? = H[gSteps]?) : Gl H' := fun i hi => (hCell_congr k).trans (h i hi)
theorem Gl.mod {F : Nat → Prop} {H H' : Heap} (h : Gl H) (hm : Mod F H H') (hn : ¬ F gSteps) : Gl H' := h.keep (hm.same _ h.lt hn)


theorem steps_ld {H : Heap} (h : Gl H) {i : Nat} (hi : i < 16) {K : Int → Prop} (hK : K ((stepsL.getD i 0#32).toNat : Int)) {a : Addr} (ha : a = ⟨gSteps, i, none⟩) : ld (cInt .u32) H a K := by
  subst ha
  exact ⟨_, h i hi, hK⟩

def crcL (l : List UInt8) : BitVec 32 := l.foldl crc8 (BitVec.allOnes 32)
theorem crcL_snoc (l : List UInt8) (c : UInt8) : crcL (l ++ [c]) = crc8 (crcL l) c := by simp [crcL]
theorem toNat_ofNat32 (c : UInt8) : (BitVec.ofNat 32 c.toNat).toNat = c.toNat := by
  rw [BitVec.toNat_ofNat]
  have := c.toNat_lt
  omega
theorem u8_get {l : List UInt8} {i : Nat} (h : i < l.length) : (u8i l).getD i 0 = ((l[i]).toNat : Int) := by
  simp [u8i, List.getD, h]
theorem byte_of {l : List UInt8} {H : Heap} {s : Sl} (h : Byts H s l) {i : Nat} (hi : i < l.length) {z : Int} (hz : z = (i : Int)) {K : Addr → Int → Prop} (hK : ∀ ad, s.a = some ad → K ad ((l[i]).toNat : Int)) :
    optK s.a fun a => (0 ≤ z ∧ z < (s.n : Int)) ∧ ld (cInt .u8) H (a.add (z.toNat * 1)) fun x => K a x :=
  ints_get (l := u8i l) h hz (by simpa [u8i] using hi) (fun ad ha => by rw [u8_get hi]; exact hK ad ha)

theorem Sum_ok {s : Sl} {l : List UInt8} {H : Heap} {K : Int → Heap → Prop} (hg : Gl H) (hb : Byts H s l) (hl : l.length < 4611686018427387904) (hK : K ((sumB l).toNat : Int) H) : page_Sum.sp s H K := by
  refine page_Sum.of ?_
  unfold page_Sum.vc
  have hn := hb.n
  refine loop_upto l.length (fun k x H1 => H1 = H ∧ x = (((crcL (l.take k)).toNat : Int), (k : Int))) ⟨rfl, rfl⟩ ?_
  rintro k _ _ next hk ⟨rfl, rfl⟩ hnext
  refine br_mk (fun hc => ?_) (fun hc => ?_)
  · have hlt : k < l.length := by rw [hn] at hc; simpa using hc
    refine byte_of hb hlt rfl fun ad ha => ?_
    have hc8 : (l[k]).toNat < 256 := (l[k]).toNat_lt
    have e0 : ixor .u32 ((crcL (l.take k)).toNat : Int) (IntKind.u32.wrap (((l[k]).toNat : Nat) : Int)) = ((crcL (l.take k) ^^^ BitVec.ofNat 32 (l[k]).toNat).toNat : Int) := by
      rw [wrap32 (by omega), ← toNat_ofNat32 l[k], ixor32, toNat_ofNat32]
    simp only [e0]
    generalize hr : crcL (l.take k) ^^^ BitVec.ofNat 32 (l[k]).toNat = r
    have half : ∀ (r : BitVec 32), ixor .u32 (ishr .u32 (r.toNat : Int) 4) ((stepsL.getD (r.toNat % 16) 0#32).toNat : Int) = ((bit4 r).toNat : Int) := by
      intro r
      have h1 : ishr .u32 (r.toNat : Int) 4 = ((r >>> 4).toNat : Int) := by
        rw [show (4 : Int) = ((4 : Nat) : Int) from rfl, ishr32 r 4 (by decide), BitVec.toNat_ushiftRight, Nat.shiftRight_eq_div_pow]
      rw [h1, ixor32, ← bit4_eq]
    rw [iand15]
    refine ⟨⟨by omega, by omega⟩, ?_⟩
    refine steps_ld hg (i := r.toNat % 16) (Nat.mod_lt _ (by decide)) ?_ (by rw [Int.toNat_natCast, Nat.mul_one, add_lit0]; rfl)
    rw [half, iand15]
    refine ⟨⟨by omega, by omega⟩, ?_⟩
    refine steps_ld hg (i := (bit4 r).toNat % 16) (Nat.mod_lt _ (by decide)) ?_ (by rw [Int.toNat_natCast, Nat.mul_one, add_lit0]; rfl)
    rw [half]
    refine hnext hlt _ _ ⟨rfl, ?_⟩
    have hs := succ64 k (by omega)
    rw [hs, List.take_succ_eq_append_getElem hlt, crcL_snoc]
    unfold crc8
    rw [hr]
  · have hge : k = l.length := by rw [hn] at hc; simp at hc; omega
    rw [hge, List.take_of_length_le (Nat.le_refl _)]
    have e : ixor .u32 (4294967295 : Int) ((crcL l).toNat : Int) = ((sumB l).toNat : Int) := by
      rw [show (4294967295 : Int) = ((BitVec.allOnes 32).toNat : Int) from rfl, ixor32]
      congr 2
    rw [e]; exact hK


/-! ### A row of bytes -/

theorem doT_copy {P : Program} {dT sT ty elem t : TypeId} {H : Heap} {b o dl dc : Nat} {x : Sl} {cur : Array Value} {cs : List Value} {K : Int → Heap → Prop} (hu : P.underlying dT = some (.slice elem)) (hs : (P.info? elem).map (·.size) = some 1)
    (h : RowT H b t cur) (hx : Reads H x.a cs) (hn : x.n = cs.length) (hle : x.n ≤ dl) (hfit : o + cs.length ≤ cur.size) (h1 : ∀ v ∈ cs, v.oneCell' = true)
    (hK : ∀ H', RowT H' b t (cur.toList.take o ++ cs ++ cur.toList.drop (o + cs.length)).toArray → Mod (fun k => k = b) H H' → H'.size = H.size → K (cs.length : Int) H') :
    doT (cInt .i64) P (Builtin.copy_ #[dT, sT] ty #[.slice (some ⟨b, o, none⟩) dl dc, x.v]) H K := by
  intro w hw
  subst hw
  obtain ⟨xa, xn, xc⟩ := x
  simp only [Sl.v] at *
  by_cases hz : cs = []
  · subst hz
    have hx0 : xn = 0 := hn
    subst hx0
    have hr := run_copy_none (P := P) w dT sT ty elem (some ⟨b, o, none⟩) xa dl dc 0 xc hu hs (by simp)
    refine ⟨_, w, hr, ⟨0, rfl, ?_⟩, .refl w⟩
    refine hK w.heap ?_ (.refl _ _) rfl
    have e : (cur.toList.take o ++ [] ++ cur.toList.drop (o + ([] : List Value).length)).toArray = cur := by simp
    rw [e]; exact h
  · have hpos : 0 < cs.length := List.length_pos_iff.2 hz
    obtain ⟨ad, rfl, _⟩ := hx.at hpos
    have hsrc : ∀ j v, cs[j]? = some v → w.cell? (ad.add j) = some v := fun j v hv => by
      obtain ⟨ad', e, hc⟩ := hx j v hv
      cases e; exact hc
    have hr := run_copy_row (P := P) w dT sT ty elem b o dl dc ad xn xc cur t cs hu hs h (by rw [← hn]; exact (Nat.min_eq_left hle).symm) hsrc hfit h1
    refine ⟨_, _, hr, ⟨(cs.length : Int), rfl, hK _ (setRow_heap w b cur _ t _ h) ⟨by simp [World.setRow], fun k _ hk => setRow_other w b k _ hk⟩ (by simp [World.setRow])⟩, (.of_le rfl (Nat.le_refl _))⟩

/-- At block 'b' lies a row of bytes. -/
abbrev RowB (H : Heap) (b : Nat) (t : TypeId) (l : List UInt8) : Prop := RowT H b t (pgV l).toArray
theorem RowB.st {H : Heap} {b : Nat} {t : TypeId} {l : List UInt8} {K : Heap → Prop} (h : RowB H b t l) {i : Nat} {x : UInt8} (hi : i < l.length) (hK : ∀ H', RowB H' b t (l.set i x) → Mod (fun k => k = b) H H' → H'.size = H.size → K H') :
    Go.Proofs.YtjjfngnokbboeaaDoor.st H (Addr.add ⟨b, 0, none⟩ i) (.int .u8 (x.toNat : Int)) K := by
  refine RowT.st h (i := i) (by simpa [pgV] using hi) rfl fun H' r m s => hK H' ?_ m s
  have e : ((pgV l).toArray.setIfInBounds i (.int .u8 (x.toNat : Int))) = (pgV (l.set i x)).toArray := by
    apply Array.toList_inj.1
    simp [pgV]
  rw [e] at r; exact r
theorem RowB.byts {H : Heap} {b : Nat} {t : TypeId} {l : List UInt8} (h : RowB H b t l) {o n c : Nat} (hn : o + n ≤ l.length) : Byts H (Sl.mk (some ⟨b, o, none⟩) n c) ((l.drop o).take n) := by
  refine ⟨by simp [u8i]; omega, fun i v hv => ⟨_, rfl, ?_⟩⟩
  rw [u8i_vals] at hv
  rw [add_lit]
  refine hCell_of h ?_
  have hi : i < n := by have := (List.getElem?_eq_some_iff.1 hv).1; simp [pgV] at this; omega
  simp only [pgV, List.getElem?_map, List.getElem?_take, if_pos hi, List.getElem?_drop] at hv
  simp only [pgV, List.getElem?_toArray, List.getElem?_map]
  exact hv

theorem set_take_drop {α : Type} {A B : List α} {k : Nat} {x : α} (hk : k < A.length) (hB : k < B.length) (hx : A[k]? = some x) : (A.take k ++ B.drop k).set k x = A.take (k + 1) ++ B.drop (k + 1) := by
  have hl : (A.take k).length = k := by simp; omega
  rw [List.set_append_right _ _ (by omega), hl, Nat.sub_self]
  have e : B.drop k = B[k] :: B.drop (k + 1) := List.drop_eq_getElem_cons hB
  rw [e, List.set_cons_zero, List.take_succ_eq_append_getElem hk]
  have : A[k] = x := by rw [List.getElem?_eq_getElem hk] at hx; exact Option.some.inj hx
  rw [this]; simp

theorem elByteI : Tryd.prog.underlying ty_sl_uint8 = some (.slice ty_uint8) := by kernel_rfl
theorem szByte : (Tryd.prog.info? ty_uint8).map (·.size) = some 1 := by kernel_rfl
theorem zc_512 : zc Tryd.prog ty_arr_512_uint8 = (pgV (List.replicate 512 0)).toArray := by kernel_rfl
theorem rep512 : List.replicate 512 (0 : UInt8) = 0 :: 0 :: 0 :: 0 :: 0 :: 0 :: 0 :: 0 :: List.replicate 504 0 := rfl

set_option maxRecDepth 20000 in
theorem Seal_ok {kind : UInt8} {s : Sl} {l : List UInt8} {H : Heap} {K : Sl × Int → Heap → Prop} (hg : Gl H) (hb : Byts H s l) (hlen : l.length ≤ 504)
    (hK : ∀ s' H', SlE EB ty_uint8 H' s' (sealP kind l) → Ext H H' → (∀ b, ownB s' b → H.size ≤ b) → K (s', 0) H') : page_Seal.sp (kind.toNat : Int) s H K := by
  refine page_Seal.of ?_
  unfold page_Seal.vc
  have hn := hb.n
  refine br_f (by simp; omega) ?_
  rw [zc_512]
  refine newC_rowT fun H1 s1 r1 e1 => ?_
  rw [rep512] at r1
  have b1 : Byts H1 s l := hb.keep fun ad _ hl => e1.same _ hl id
  refine ⟨⟨by decide, by decide⟩, ?_⟩
  have v4 : IntKind.u8.wrap (s.n : Int) = ((UInt8.ofNat l.length).toNat : Int) := by rw [hn, wrap8]
  have v5 : IntKind.u8.wrap (ishr .i64 (s.n : Int) 8) = ((UInt8.ofNat (l.length / 256)).toNat : Int) := by
    have : ishr .i64 (s.n : Int) 8 = ((l.length / 256 : Nat) : Int) := by
      unfold ishr
      rw [hn, show (min (8 : Int).toNat IntKind.i64.bits) = 8 from rfl, Int.fdiv_eq_ediv_of_nonneg _ (Int.pow_nonneg (by decide))]
      rfl
    rw [this, wrap8]
  rw [v4]
  refine RowB.st (i := 4) r1 (by simp) fun H2 r2 m2 z2 => ?_
  refine ⟨⟨by decide, by decide⟩, ?_⟩
  rw [v5]
  refine RowB.st (i := 5) r2 (by simp) fun H3 r3 m3 z3 => ?_
  refine ⟨⟨by decide, by decide⟩, ?_⟩
  refine RowB.st (i := 6) r3 (by simp) fun H4 r4 m4 z4 => ?_
  refine ⟨⟨by decide, by decide⟩, ?_⟩
  refine RowB.st (i := 7) (x := 157) r4 (by simp) fun H5 r5 m5 z5 => ?_
  refine ⟨⟨by decide, by decide⟩, ?_⟩
  have m15 : Mod (fun b => b = H.size) H1 H5 := ((m2.trans m3).trans m4).trans m5
  have m05 : Ext H H5 := ⟨by have := e1.size; have := m15.size; omega, fun b hb _ => (m15.same b (by omega) (by omega)).trans (e1.same b hb id)⟩
  have b5 : Byts H5 s l := hb.keep fun ad _ hl => m05.same _ hl id
  have a8 : slA (some ⟨H.size, 0, none⟩) 512 ((8 : Int).toNat) 1 = some ⟨H.size, 8, none⟩ := rfl
  rw [a8]
  refine doT_copy (t := ty_arr_512_uint8) elByteI szByte r5 b5.cells (by rw [hn]; simp [pgV]) (by rw [hn]; show _ ≤ 504; omega) (by simp [pgV]; omega) (by
    intro v hv
    obtain ⟨x, _, rfl⟩ := List.mem_map.1 hv; rfl) fun H6 r6 m6 z6 => ?_
  have L6 : (0 :: 0 :: 0 :: 0 :: bodyP kind l : List UInt8) = [0, 0, 0, 0] ++ bodyP kind l := rfl
  have r6' : RowB H6 H.size ty_arr_512_uint8 ([0, 0, 0, 0] ++ bodyP kind l) := by
    have e : (((pgV (((((0 :: 0 :: 0 :: 0 :: 0 :: 0 :: 0 :: 0 :: List.replicate 504 0 : List UInt8).set 4 (UInt8.ofNat l.length)).set 5 (UInt8.ofNat (l.length / 256))).set 6 kind).set 7 157)).toArray.toList.take 8 ++ pgV l) ++ (pgV (((((0 :: 0 :: 0 :: 0 :: 0 :: 0 :: 0 :: 0 :: List.replicate 504 0 : List UInt8).set 4 (UInt8.ofNat l.length)).set 5 (UInt8.ofNat (l.length / 256))).set 6 kind).set 7 157)).toArray.toList.drop (8 + (pgV l).length)).toArray = (pgV ([0, 0, 0, 0] ++ bodyP kind l)).toArray := by
      congr 1
      simp only [List.set_cons_succ, List.set_cons_zero, pgV, List.map_cons, List.take_succ_cons, List.take_zero, List.map_append, bodyP, List.length_map, List.map_replicate]
      rw [show 8 + l.length = l.length + 8 from Nat.add_comm _ _]
      simp only [List.drop_succ_cons, List.drop_replicate]
      simp
    rw [e] at r6; exact r6
  have m16 : Mod (fun b => b = H.size) H1 H6 := m15.trans m6
  have m06 : Ext H H6 := ⟨by have := e1.size; have := m16.size; omega, fun b hb _ => (m16.same b (by omega) (by omega)).trans (e1.same b hb id)⟩
  refine ⟨⟨by decide, by decide⟩, ?_⟩
  have a4 : slA (some ⟨H.size, 0, none⟩) 512 ((4 : Int).toNat) 1 = some ⟨H.size, 4, none⟩ := rfl
  rw [a4]
  have hbl := bodyP_length (kind := kind) hlen
  have by6 := RowB.byts r6' (o := 4) (n := 508) (c := 508) (by simp [hbl])
  have ed : (([0, 0, 0, 0] ++ bodyP kind l : List UInt8).drop 4).take 508 = bodyP kind l := by
    show (bodyP kind l).take 508 = _
    rw [List.take_of_length_le (by omega)]
  rw [ed] at by6
  refine Sum_ok (hg.mod m06 id) by6 (by omega) ?_
  refine loop_upto 4 (fun k x H7 => x = (k : Int) ∧ RowB H7 H.size ty_arr_512_uint8 ((le4 (sumB (bodyP kind l))).take k ++ ([0, 0, 0, 0] ++ bodyP kind l).drop k) ∧ Mod (fun b => b = H.size) H6 H7) ⟨rfl, r6', .refl _ _⟩ ?_
  rintro k _ H7 next hk ⟨rfl, r7, m7⟩ hnext
  refine br_mk (fun hc => ?_) (fun hc => ?_)
  · have hk4 : k < 4 := by simp at hc; omega
    have hw : IntKind.i64.wrap ((8 : Int) * (k : Int)) = ((8 * k : Nat) : Int) := by rw [wrap64 (by omega) (by omega)]; omega
    rw [hw]
    refine ⟨by omega, ⟨by omega, by omega⟩, ?_⟩
    have hv : (le4 (sumB (bodyP kind l)))[k]? = some (UInt8.ofNat ((sumB (bodyP kind l)).toNat / 2 ^ (8 * k))) := by
      have : k = 0 ∨ k = 1 ∨ k = 2 ∨ k = 3 := by omega
      rcases this with rfl | rfl | rfl | rfl <;> simp [le4]
    rw [ishr32 _ (8 * k) (by omega), wrap8, Int.toNat_natCast, Nat.mul_one]
    refine RowB.st (i := k) r7 (by simp [le4, hbl]; omega) fun H8 r8 m8 z8 => ?_
    rw [set_take_drop (by simp [le4]; omega) (by simp [hbl]; omega) hv] at r8
    exact hnext hk4 _ _ ⟨succ64 k (by omega), r8, m7.trans m8⟩
  · have hk4 : k = 4 := by simp at hc; omega
    subst hk4
    have r7' : RowB H7 H.size ty_arr_512_uint8 (sealP kind l) := by
      have e : (le4 (sumB (bodyP kind l))).take 4 ++ ([0, 0, 0, 0] ++ bodyP kind l : List UInt8).drop 4 = sealP kind l := rfl
      rw [e] at r7; exact r7
    have hsl := sealP_length (kind := kind) hlen
    have by7 := RowB.byts r7' (o := 0) (n := 512) (c := 512) (by omega)
    rw [List.drop_zero, List.take_of_length_le (by omega)] at by7
    have a0 : slA (some ⟨H.size, 0, none⟩) 512 0 1 = some ⟨H.size, 0, none⟩ := rfl
    rw [a0]
    refine CloneByte_ok by7 (by omega) fun s' H' o' m' f' => ?_
    have m17 : Mod (fun b => b = H.size) H1 H7 := m16.trans m7
    have z1 := e1.size; have z7 := m17.size; have z' := m'.size
    refine hK s' H' o' ⟨by omega, fun b hb _ => (m'.same b (by omega) id).trans ((m17.same b (by omega) (by omega)).trans (e1.same b hb id))⟩ (fun b hb => ?_)
    have := f' b hb; omega


/-! ### What opens a page -/

theorem Byts.drop {H : Heap} {s : Sl} {l : List UInt8} (h : Byts H s l) (hc : s.n ≤ s.c) (i : Nat) : Byts H (Sl.mk (slA s.a s.c i 1) (s.n - i) (s.c - i)) (l.drop i) := by
  have hn := h.n
  refine ⟨by simp [u8i, hn], ?_⟩
  have := RdE.drop (E := EB) (i := i) (c := s.c) (a := s.a) (l := l) (by unfold RdE; rw [EB_all]; exact h.cells) (by omega)
  unfold RdE at this
  rw [EB_all] at this
  rw [u8i_vals]
  exact this
theorem Byts.take {H : Heap} {s : Sl} {l : List UInt8} (h : Byts H s l) (i : Nat) (hi : i ≤ s.n) (c : Nat) : Byts H (Sl.mk s.a i c) (l.take i) := by
  have hn := h.n
  refine ⟨by simp [u8i]; omega, ?_⟩
  rw [u8i_vals]
  have : pgV (l.take i) = (pgV l).take i := by simp [pgV]
  rw [this]
  exact h.cells.take i
theorem IndexZ_ok {s : Sl} {l : List UInt8} {H : Heap} {K : Int → Heap → Prop} (hb : Byts H s l) (hl : l.length < 4611686018427387904) (hK : ∀ r : Int, (decide (r ≥ 0)) = l.any (fun c => c != 0) → K r H) : slices_IndexFunc_sl_byte_byte.sp s H K := by
  refine slices_IndexFunc_sl_byte_byte.of ?_
  unfold slices_IndexFunc_sl_byte_byte.vc
  have hn := hb.n
  refine loop_upto l.length (fun k x H1 => H1 = H ∧ x = (k : Int) ∧ (l.take k).any (fun c => c != 0) = false) ⟨rfl, rfl, by simp⟩ ?_
  rintro k _ _ next hk ⟨rfl, rfl, hno⟩ hnext
  refine br_mk (fun hc => ?_) (fun hc => ?_)
  · have hlt : k < l.length := by rw [hn] at hc; simpa using hc
    refine byte_of hb hlt rfl fun ad ha => ?_
    refine page_Open_c1.of ?_
    unfold page_Open_c1.vc
    have ex : l = l.take k ++ l[k] :: l.drop (k + 1) := by
      rw [← List.drop_eq_getElem_cons hlt, List.take_append_drop]
    refine br_mk (fun hz => ?_) (fun hz => ?_)
    · have hne : l[k] ≠ 0 := by
        intro e; rw [e] at hz; simp at hz
      refine hK _ ?_
      have e2 : l.any (fun c => c != 0) = true := List.any_eq_true.2 ⟨l[k], List.getElem_mem hlt, by simpa using hne⟩
      rw [e2]; simp
    · have he : l[k] = 0 := by
        have : ((l[k]).toNat : Int) = 0 := by simpa using hz
        exact UInt8.toNat_inj.1 (by rw [UInt8.toNat_zero]; omega)
      refine hnext hlt _ _ ⟨rfl, succ64 k (by omega), ?_⟩
      rw [List.take_succ_eq_append_getElem hlt, List.any_append, hno, he]; rfl
  · have hge : k = l.length := by rw [hn] at hc; simp at hc; omega
    rw [hge, List.take_of_length_le (Nat.le_refl _)] at hno
    refine hK _ ?_
    rw [hno]; rfl
theorem ContainsZ_ok {s : Sl} {l : List UInt8} {H : Heap} {K : Bool → Heap → Prop} (hb : Byts H s l) (hl : l.length < 4611686018427387904) (hK : K (l.any (fun c => c != 0)) H) : slices_ContainsFunc_sl_byte_byte.sp s H K := by
  refine slices_ContainsFunc_sl_byte_byte.of ?_
  unfold slices_ContainsFunc_sl_byte_byte.vc
  refine IndexZ_ok hb hl fun r hr => ?_
  rw [hr]; exact hK

theorem size_or {a b : Nat} (ha : a < 256) (hb : b < 256) : ior .i64 (IntKind.i64.wrap (a : Int)) (ishl .i64 (IntKind.i64.wrap (b : Int)) 8) = ((a + 256 * b : Nat) : Int) := by
  rw [wrap64 (by omega) (by omega), wrap64 (x := (b : Int)) (by omega) (by omega)]
  have e1 : ishl .i64 (b : Int) 8 = ((b * 256 : Nat) : Int) := by
    unfold ishl
    rw [show (min (8 : Int).toNat IntKind.i64.bits) = 8 from rfl, wrap64 (by omega) (by omega)]
    omega
  rw [e1]
  unfold ior
  show IntKind.i64.wrap ((BitVec.ofInt 64 (a : Int) ||| BitVec.ofInt 64 ((b * 256 : Nat) : Int)).toNat : Int) = _
  rw [BitVec.ofInt_natCast, BitVec.ofInt_natCast, BitVec.toNat_or, BitVec.toNat_ofNat, BitVec.toNat_ofNat, Nat.mod_eq_of_lt (by omega), Nat.mod_eq_of_lt (by omega)]
  have e2 : a ||| b * 256 = a + 256 * b := by
    have := Nat.shiftLeft_add_eq_or_of_lt (i := 8) (b := a) (by omega) b
    rw [Nat.shiftLeft_eq] at this
    rw [Nat.or_comm, show b * 256 = b * 2 ^ 8 from rfl, ← this]; omega
  rw [e2]
  exact wrap64 (by omega) (by omega)

theorem openP_none {l : List UInt8} (h : l.length = 512) (hn : ¬ (l.take 4 = le4 (sumB (l.drop 4)) ∧ sizeP l ≤ 504 ∧ l.getD 7 0 = 157 ∧ ∀ c ∈ l.drop (8 + sizeP l), c = 0)) : openP l = none := by
  unfold openP
  rw [if_neg (fun q => hn ((openP_iff h).1 q))]
theorem openP_some {l : List UInt8} (h : l.length = 512) (hn : l.take 4 = le4 (sumB (l.drop 4)) ∧ sizeP l ≤ 504 ∧ l.getD 7 0 = 157 ∧ ∀ c ∈ l.drop (8 + sizeP l), c = 0) : openP l = some (l.getD 6 0, (l.drop 8).take (sizeP l)) := by
  unfold openP
  rw [if_pos ((openP_iff h).2 hn)]

set_option maxRecDepth 20000 in
theorem Open_ok {s : Sl} {l : List UInt8} {H : Heap} {K : (Int × Sl × Int) → Heap → Prop} (hg : Gl H) (hb : Byts H s l) (hl : l.length < 4611686018427387904) (hcap : s.n ≤ s.c)
    (hA : l.length ≠ 512 → K (0, Sl.mk none 0 0, 2) H) (hT : l.length = 512 → openP l = none → K (0, Sl.mk none 0 0, 20) H)
    (hK : ∀ k b s' H', l.length = 512 → openP l = some (k, b) → b.length ≤ 504 → SlE EB ty_uint8 H' s' b → Ext H H' → (∀ b, ownB s' b → H.size ≤ b) → K ((k.toNat : Int), s', 0) H') : page_Open.sp s H K := by
  refine page_Open.of ?_
  unfold page_Open.vc
  have hn := hb.n
  refine br_mk (fun hc => hA (by rw [hn] at hc; simp at hc; omega)) (fun hc => ?_)
  have h512 : l.length = 512 := by rw [hn] at hc; simp at hc; omega
  refine ⟨⟨by decide, by omega⟩, ?_⟩
  have d4 := hb.drop hcap 4
  refine Sum_ok hg d4 (by simp; omega) ?_
  refine loop_upto 4 (fun k x H1 => H = H1 ∧ x = (k : Int) ∧ l.take k = (le4 (sumB (l.drop 4))).take k) ⟨rfl, rfl, rfl⟩ ?_
  rintro k _ _ next hk ⟨rfl, rfl, heq⟩ hnext
  refine br_mk (fun hc => ?_) (fun hc => ?_)
  · have hk4 : k < 4 := by simp at hc; omega
    have hlt : k < l.length := by omega
    refine byte_of hb hlt rfl fun ad ha => ?_
    have hw : IntKind.i64.wrap ((8 : Int) * (k : Int)) = ((8 * k : Nat) : Int) := by rw [wrap64 (by omega) (by omega)]; omega
    rw [hw]
    refine ⟨by omega, ?_⟩
    rw [ishr32 _ (8 * k) (by omega), wrap8]
    have hv : (le4 (sumB (l.drop 4)))[k]? = some (UInt8.ofNat ((sumB (l.drop 4)).toNat / 2 ^ (8 * k))) := by
      have : k = 0 ∨ k = 1 ∨ k = 2 ∨ k = 3 := by omega
      rcases this with rfl | rfl | rfl | rfl <;> simp [le4]
    refine br_mk (fun hz => ?_) (fun hz => ?_)
    · refine hT h512 (openP_none h512 fun q => ?_)
      have e1 : (l.take 4)[k]? = some l[k] := by rw [List.getElem?_take, if_pos hk4, List.getElem?_eq_getElem hlt]
      rw [q.1, hv] at e1
      rw [Option.some.inj e1] at hz
      simp at hz
    · have e1 : l[k] = UInt8.ofNat ((sumB (l.drop 4)).toNat / 2 ^ (8 * k)) := by
        refine UInt8.toNat_inj.1 ?_
        have : ((l[k]).toNat : Int) = ((UInt8.ofNat ((sumB (l.drop 4)).toNat / 2 ^ (8 * k))).toNat : Int) := by simpa using hz
        omega
      refine hnext hk4 _ _ ⟨rfl, succ64 k (by omega), ?_⟩
      have hk4' : k < (le4 (sumB (l.drop 4))).length := by simp [le4]; omega
      rw [List.take_succ_eq_append_getElem hlt, List.take_succ_eq_append_getElem hk4', heq]
      rw [List.getElem?_eq_getElem hk4'] at hv
      rw [Option.some.inj hv, e1]
  · have hk4 : k = 4 := by simp at hc; omega
    subst hk4
    have hsum : l.take 4 = le4 (sumB (l.drop 4)) := by
      rw [heq]; exact List.take_of_length_le (by simp [le4])
    refine byte_of (i := 4) (z := 4) hb (by omega) rfl fun _ _ => ?_
    refine byte_of (i := 5) (z := 5) hb (by omega) rfl fun _ _ => ?_
    have hsz : ior .i64 (IntKind.i64.wrap ((l[4]).toNat : Int)) (ishl .i64 (IntKind.i64.wrap ((l[5]).toNat : Int)) 8) = (sizeP l : Int) := by
      rw [size_or (l[4]).toNat_lt (l[5]).toNat_lt]
      unfold sizeP
      simp [List.getD, List.getElem?_eq_getElem (show 4 < l.length by omega), List.getElem?_eq_getElem (show 5 < l.length by omega)]
    rw [hsz]
    refine br_mk (fun hz => hT h512 (openP_none h512 fun q => ?_)) (fun hz => ?_)
    · have := q.2.1; simp at hz; omega
    have hle : sizeP l ≤ 504 := by simp at hz; omega
    refine byte_of (i := 7) (z := 7) hb (by omega) rfl fun _ _ => ?_
    have h7 : l.getD 7 0 = l[7] := by simp [List.getD, List.getElem?_eq_getElem (show 7 < l.length by omega)]
    refine br_mk (fun hz => hT h512 (openP_none h512 fun q => ?_)) (fun hz => ?_)
    · have := q.2.2.1
      rw [h7] at this
      rw [this] at hz; simp at hz
    have h7' : l.getD 7 0 = 157 := by
      rw [h7]
      refine UInt8.toNat_inj.1 ?_
      have : ((l[7]).toNat : Int) = 157 := by simpa using hz
      rw [show (157 : UInt8).toNat = 157 from rfl]; omega
    have hw8 : IntKind.i64.wrap ((8 : Int) + (sizeP l : Int)) = ((8 + sizeP l : Nat) : Int) := by rw [wrap64 (by omega) (by omega)]; omega
    rw [hw8, Int.toNat_natCast]
    refine ⟨⟨by omega, by omega⟩, ?_⟩
    refine ContainsZ_ok (hb.drop hcap (8 + sizeP l)) (by simp; omega) ?_
    refine br_mk (fun hz => hT h512 (openP_none h512 fun q => ?_)) (fun hz => ?_)
    · obtain ⟨c, hc1, hc2⟩ := List.any_eq_true.1 hz
      rw [q.2.2.2 c hc1] at hc2; simp at hc2
    have hz' : ∀ c ∈ l.drop (8 + sizeP l), c = 0 := by
      intro c hc1
      have := List.any_eq_false.1 hz c hc1
      simpa using this
    have hop := openP_some h512 ⟨hsum, hle, h7', hz'⟩
    refine ⟨fun H' => Ext H H', .refl _ _, ?_⟩
    have hlt6 : 6 < l.length := by omega
    have hb' : ∀ H', Ext H H' → Byts H' s l := fun H' e => hb.keep fun ad _ hl => e.same _ hl id
    obtain ⟨ad, ha, _⟩ := hb.addr (by omega)
    refine optK_mk ad ha ⟨⟨by decide, by omega⟩, ((l[6]).toNat : Int), fun H' e => ?_, ?_⟩
    · have hc6 := (hb' H' e).at (i := 6) (by simp [u8i]; omega)
      obtain ⟨ad', ha', hc6⟩ := hc6
      rw [ha] at ha'; cases ha'
      rw [show (6 : Int).toNat * 1 = 6 from rfl, hc6]
      simp [u8i]
    · refine ⟨⟨by omega, by omega⟩, ⟨by decide, by omega⟩, ?_⟩
      have hd8 := (hb.drop hcap 8).take (sizeP l) (by show _ ≤ s.n - 8; omega) (s.c - 8)
      have e8 : (8 + sizeP l) - (8 : Int).toNat = sizeP l := by show 8 + sizeP l - 8 = _; omega
      rw [e8]
      refine CloneByte_ok hd8 (by simp; omega) fun s' H' o' m' f' => ⟨m', ?_⟩
      have h6 : l.getD 6 0 = l[6] := by simp [List.getD, List.getElem?_eq_getElem hlt6]
      rw [h6] at hop
      exact hK l[6] _ s' H' h512 hop (by simp; omega) o' m' f'

end Go.Proofs.YtjjfngnokbboeaaDoor

/-
  Manifests: numbers in bytes; what takes bytes apart: the walk.
-/
namespace Go.Proofs.YtjjfngnokbboeaaDoor
open Go.MapKept

theorem wrapU64 (x : Int) : IntKind.u64.wrap x = x % 18446744073709551616 := by rw [IntKind.wrap_u64]
theorem orByte {x b : Nat} (hx : x < 18446744073709551616) (hb : b < 256) : ior .u64 (ishl .u64 (x : Int) 8) (IntKind.u64.wrap (b : Int)) = (((x * 256 + b) % 18446744073709551616 : Nat) : Int) := by
  unfold ior ishl
  have e0 : (2 : Int) ^ (min (8 : Int).toNat IntKind.u64.bits) = 256 := by decide
  rw [e0]
  simp only [wrapU64]
  obtain ⟨r, hr⟩ : ∃ r, r = x % 72057594037927936 := ⟨_, rfl⟩
  have hr2 : r < 72057594037927936 := by omega
  have e1 : ((x : Int) * 256) % 18446744073709551616 = ((256 * r : Nat) : Int) := by omega
  have e2 : (b : Int) % 18446744073709551616 = ((b : Nat) : Int) := by omega
  have e3 : (BitVec.ofInt IntKind.u64.bits ((256 * r : Nat) : Int) ||| BitVec.ofInt IntKind.u64.bits ((b : Nat) : Int)).toNat = 256 * r + b := by
    have hb64 : IntKind.u64.bits = 64 := rfl
    have hor := Nat.two_pow_add_eq_or_of_lt (i := 8) (b := b) hb r
    rw [BitVec.ofInt_natCast, BitVec.ofInt_natCast, BitVec.toNat_or, BitVec.toNat_ofNat, BitVec.toNat_ofNat, hb64, Nat.mod_eq_of_lt (by omega), Nat.mod_eq_of_lt (by omega)]
    exact hor.symm
  rw [e1, e2, e3]
  omega
theorem shr64 (n k : Nat) (hk : k ≤ 64) : ishr .u64 (n : Int) (k : Int) = ((n / 2 ^ k : Nat) : Int) := by
  unfold ishr
  have : min (k : Int).toNat IntKind.u64.bits = k := by
    show min (k : Int).toNat 64 = k
    omega
  rw [this, Int.fdiv_eq_ediv_of_nonneg _ (Int.pow_nonneg (by decide)), Int.natCast_ediv, Int.natCast_pow]
  rfl
theorem byteI (x : Nat) : IntKind.u8.wrap (x : Int) = ((UInt8.ofNat x).toNat : Int) := by
  have h1 : IntKind.u8.wrap (x : Int) = (x : Int) % 256 := by rw [IntKind.wrap_u8]
  rw [h1, UInt8.toNat_ofNat']
  omega

theorem be_set (k i n : Nat) (hi : i < k) : (List.replicate (k - i) (0 : UInt8) ++ beN i n).set (k - 1 - i) (UInt8.ofNat (n / 256 ^ i)) = List.replicate (k - (i + 1)) 0 ++ beN (i + 1) n := by
  obtain ⟨m, hm⟩ : ∃ m, k - i = m + 1 := ⟨k - i - 1, by omega⟩
  have e1 : k - 1 - i = m := by omega
  have e2 : k - (i + 1) = m := by omega
  rw [hm, e1, e2, List.replicate_succ', List.append_assoc, List.set_append_right _ _ (by simp)]
  simp [beN]

set_option maxRecDepth 100000 in
theorem bytesOf_ok {n many : Nat} {H : Heap} {K : Sl → Heap → Prop} (hm : many ≤ 8) (h1 : 1 ≤ many)
    (hK : ∀ s H', SlE EB ty_uint8 H' s (beN many n) → Ext H H' → (∀ b, ownB s b → H.size ≤ b) → s.a ≠ none → K s H') : manifest_bytesOf.sp (n : Int) (many : Int) H K := by
  refine manifest_bytesOf.of ?_
  unfold manifest_bytesOf.vc
  refine elByte1.make (base := 0) (by omega) (Int.le_refl _) (by omega) (by omega) (Nat.zero_le _) fun s H1 hn o1 e1 f1 ha => ?_
  rw [Int.toNat_natCast] at hn o1
  refine loop_upto many (fun i z A => z = (i : Int) ∧ Owns A 0 ty_uint8 1 s (pgV (List.replicate (many - i) 0 ++ beN i n)) ∧ Ext H A) ⟨rfl, by
    rw [Nat.sub_zero]; simp only [beN, List.append_nil]; rw [pgV_rep]; exact o1, e1⟩ ?_
  rintro i _ A next hi ⟨rfl, o, e⟩ hnext
  refine br_mk (fun hc => ?_) (fun hc => ?_)
  · have hlt : i < many := by have : (i : Int) < (s.n : Int) := by simpa using hc
                              omega
    have ew : IntKind.i64.wrap (8 * (i : Int)) = ((8 * i : Nat) : Int) := by rw [wrap64 (by omega) (by omega)]; omega
    have ex : IntKind.i64.wrap (IntKind.i64.wrap ((many : Int) - 1) - (i : Int)) = ((many - 1 - i : Nat) : Int) := by
      rw [wrap64 (x := (many : Int) - 1) (by omega) (by omega), wrap64 (by omega) (by omega)]; omega
    rw [ew, ex]
    refine ⟨by omega, ?_⟩
    rw [shr64 n (8 * i) (by omega), byteI]
    have ep : (2 : Nat) ^ (8 * i) = 256 ^ i := by rw [Nat.pow_mul]
    rw [ep]
    refine Owns.st o (i := ((many - 1 - i : Nat) : Int)) (by omega) (by omega) rfl fun A2 o2 m2 z2 => ?_
    rw [Int.toNat_natCast, pgV_set, be_set many i n hlt] at o2
    exact hnext hlt _ _ ⟨succ64 i (by omega), o2, ⟨by have := e.size; omega, fun b hb _ => (m2.same b (by have := e.size; omega) fun q => by have := f1 b q; omega).trans (e.same b hb id)⟩⟩
  · have hge : i = many := by have : ¬ (i : Int) < (s.n : Int) := by simpa using hc
                              omega
    subst hge
    rw [Nat.sub_self] at o
    exact hK s A (SlB_of (by simpa using o)) e f1 ha

theorem numberOf_ok {l : List UInt8} {s : Sl} {H : Heap} {K : Int → Heap → Prop} (h : Byts H s l) (hl : l.length < 4611686018427387904) (hK : K (deN l : Int) H) : manifest_numberOf.sp s H K := by
  refine manifest_numberOf.of ?_
  unfold manifest_numberOf.vc
  have hn := h.n
  refine loop_upto l.length (fun i z A => z.2 = (i : Int) ∧ z.1 = (deN (l.take i) : Int) ∧ A = H) ⟨rfl, rfl, rfl⟩ ?_
  rintro i ⟨z1, _⟩ A next hi ⟨rfl, rfl, rfl⟩ hnext
  simp only
  have hb : deN (l.take i) < 18446744073709551616 := by
    unfold deN
    rcases List.eq_nil_or_concat (l.take i) with q | ⟨r, x, q⟩
    · rw [q]; decide
    · rw [q, List.concat_eq_append, List.foldl_append]
      exact Nat.mod_lt _ (by decide)
  refine br_mk (fun hc => ?_) (fun hc => ?_)
  · have hlt : i < l.length := by have : (i : Int) < (s.n : Int) := by simpa using hc
                                  omega
    refine byte_of h hlt rfl fun ad _ => ?_
    have hs : deN (l.take (i + 1)) = (deN (l.take i) * 256 + (l[i]).toNat) % 18446744073709551616 := by
      rw [List.take_add_one, List.getElem?_eq_getElem hlt]
      unfold deN
      rw [List.foldl_append]; rfl
    rw [orByte hb (l[i]).toNat_lt, ← hs]
    exact hnext hlt _ _ ⟨succ64 i (by omega), rfl, rfl⟩
  · have hge : i = l.length := by have : ¬ (i : Int) < (s.n : Int) := by simpa using hc
                                  omega
    subst hge
    rw [List.take_length]
    exact hK

theorem slA_block {a : Option Addr} {c i : Nat} {ad : Addr} (h : slA a c i 1 = some ad) : ∃ ad0, a = some ad0 ∧ ad0.block = ad.block := by
  unfold slA at h
  split at h
  · exact ⟨ad, h, rfl⟩
  · cases a with
    | none => cases h
    | some x => cases h; exact ⟨x, rfl, (add_block _ _).symm⟩
/-! ### What takes bytes apart -/

theorem byts0 (H : Heap) : Byts H (Sl.mk none 0 0) [] := ⟨rfl, Reads.nil _ _⟩

/-- A reader that stands ahead of some bytes, which lie in an older heap; none: there were too few. -/
def RdA (H0 A : Heap) (q : Nat) : Option (List UInt8) → Prop
  | none => RowT A q ty_manifest_reader #[(Sl.mk none 0 0).v, .bool true]
  | some l => ∃ s : Sl, RowT A q ty_manifest_reader #[s.v, .bool false] ∧ Byts H0 s l ∧ s.n ≤ s.c

theorem RdA.lt {H0 A : Heap} {q : Nat} {st : Option (List UInt8)} (h : RdA H0 A q st) : q < A.size := by
  cases st with
  | none => exact obj_lt h
  | some l => obtain ⟨s, r, _⟩ := h; exact obj_lt r
theorem RdA.mod {F : Nat → Prop} {H0 A B : Heap} {q : Nat} {st : Option (List UInt8)} (h : RdA H0 A q st) (m : Mod F A B) (hn : ¬ F q) : RdA H0 B q st := by
  cases st with
  | none => exact RowT.mod h m hn
  | some l => obtain ⟨s, r, b, c⟩ := h; exact ⟨s, RowT.mod r m hn, b, c⟩
theorem RdA.ext {H0 A B : Heap} {q : Nat} {st : Option (List UInt8)} (h : RdA H0 A q st) (e : Ext A B) : RdA H0 B q st := h.mod e id
theorem RdA.short {H0 A : Heap} {q : Nat} {st : Option (List UInt8)} (h : RdA H0 A q st) {K : Bool → Prop} (hK : K st.isNone) : ld cBool A (Addr.add ⟨q, 0, none⟩ 1) K := by
  cases st with
  | none => exact RowT.ld (c := cBool) (i := 1) (x := true) h rfl hK
  | some l => obtain ⟨s, r, _⟩ := h; exact r.ld (c := cBool) (i := 1) (x := false) rfl hK
theorem ext_at {H0 A B : Heap} {q : Nat} (e : Ext H0 A) (hq : H0.size ≤ q) (m : Mod (fun b => b = q) A B) : Ext H0 B :=
  ⟨Nat.le_trans e.size m.size, fun b hb _ => (m.same b (Nat.lt_of_lt_of_le hb e.size) (by omega)).trans (e.same b hb id)⟩

theorem take_ok {q n : Nat} {st : Option (List UInt8)} {H0 A : Heap} {K : Sl → Heap → Prop} (h : RdA H0 A q st)
    (hK : ∀ s A', RdA H0 A' q (mTake n st).2 → Byts H0 s (mTake n st).1 → (0 < n → s.a.isNone = (mTake n st).2.isNone) → Mod (fun b => b = q) A A' → A'.size = A.size → K s A') : manifest_reader_take.sp (at0 q) (n : Int) A K := by
  refine manifest_reader_take.of ?_
  unfold manifest_reader_take.vc at0
  simp only [optK_eq]
  cases st with
  | none =>
    have h : RowT A q ty_manifest_reader #[(Sl.mk none 0 0).v, .bool true] := h
    refine h.ld (c := cSl) (i := 0) (x := Sl.mk none 0 0) rfl ?_
    refine br_mk (fun hc => ?_) (fun hc => ?_)
    · refine h.st (i := 0) (by decide) rfl fun A1 r1 m1 z1 => ?_
      refine RowT.st r1 (i := 1) (by decide) rfl fun A2 r2 m2 z2 => ?_
      exact hK _ A2 r2 (byts0 _) (fun _ => rfl) (m1.trans m2) (by omega)
    · have hn : n = 0 := by have : ¬ (n : Int) > ((0 : Nat) : Int) := by simpa using hc
                            omega
      subst hn
      refine h.ld (c := cSl) (i := 0) (x := Sl.mk none 0 0) rfl ⟨⟨by simp, by simp⟩, ⟨by simp, by simp⟩, ?_⟩
      refine h.ld (c := cSl) (i := 0) (x := Sl.mk none 0 0) rfl ⟨⟨by simp, by simp⟩, ?_⟩
      refine h.st (i := 0) (by decide) rfl fun A1 r1 m1 z1 => ?_
      exact hK _ A1 r1 (byts0 _) (fun q => by omega) m1 z1
  | some l =>
    obtain ⟨s, r, hb, hc⟩ := h
    have hn := hb.n
    refine r.ld (c := cSl) (i := 0) (x := s) rfl ?_
    refine br_mk (fun hx => ?_) (fun hx => ?_)
    · have hlt : l.length < n := by have : (n : Int) > (s.n : Int) := by simpa using hx
                                    omega
      have e : mTake n (some l) = ([], none) := by unfold mTake; simp only; rw [if_pos hlt]
      rw [e] at hK
      refine r.st (i := 0) (by simp) rfl fun A1 r1 m1 z1 => ?_
      refine RowT.st r1 (i := 1) (by simp) rfl fun A2 r2 m2 z2 => ?_
      exact hK _ A2 r2 (byts0 _) (fun _ => rfl) (m1.trans m2) (by omega)
    · have hge : n ≤ l.length := by have : ¬ (n : Int) > (s.n : Int) := by simpa using hx
                                    omega
      have e : mTake n (some l) = (l.take n, some (l.drop n)) := by unfold mTake; simp only; rw [if_neg (by omega)]
      rw [e] at hK
      refine r.ld (c := cSl) (i := 0) (x := s) rfl ⟨⟨by omega, by omega⟩, ⟨by omega, by omega⟩, ?_⟩
      refine r.ld (c := cSl) (i := 0) (x := s) rfl ⟨⟨by omega, by omega⟩, ?_⟩
      simp only [Int.toNat_natCast, Nat.sub_zero]
      refine r.st (i := 0) (by simp) rfl fun A1 r1 m1 z1 => ?_
      rw [slA_zero]
      refine hK _ A1 ⟨Sl.mk (slA s.a s.c n 1) (s.n - n) (s.c - n), r1, hb.drop hc n, by simp only; omega⟩ (hb.take n (by omega) n) (fun h0 => ?_) m1 z1
      obtain ⟨ad, ha, _⟩ := hb.addr (by omega)
      simp only [ha]; rfl

theorem num_take (st : Option (List UInt8)) : mNum st = (deN (mTake 4 st).1, (mTake 4 st).2) ∨ (mNum st = (0, none) ∧ (mTake 4 st).2 = none) := by
  cases st with
  | none => right; exact ⟨rfl, rfl⟩
  | some l =>
    unfold mNum mTake
    simp only
    by_cases h : l.length < 4
    · right; rw [if_pos h, if_pos h]; exact ⟨rfl, rfl⟩
    · left; rw [if_neg h, if_neg h]
theorem take_le {n : Nat} (st : Option (List UInt8)) : (mTake n st).1.length ≤ n := by
  cases st with
  | none => exact Nat.zero_le _
  | some l =>
    unfold mTake
    simp only
    split
    · exact Nat.zero_le _
    · exact List.length_take_le _ _
theorem number_ok {q : Nat} {st : Option (List UInt8)} {H0 A : Heap} {K : Int → Heap → Prop} (e0 : Ext H0 A) (hq : H0.size ≤ q) (h : RdA H0 A q st)
    (hK : ∀ A', RdA H0 A' q (mNum st).2 → Mod (fun b => b = q) A A' → A'.size = A.size → K ((mNum st).1 : Int) A') : manifest_reader_number.sp (at0 q) A K := by
  refine manifest_reader_number.of ?_
  unfold manifest_reader_number.vc
  refine take_ok (n := 4) h fun s A1 r1 b1 n1 m1 z1 => ?_
  have hn1 := n1 (by decide)
  have hl := take_le (n := 4) st
  rcases num_take st with e | ⟨e, e2⟩
  · rw [e] at hK
    refine br_mk (fun hc => ?_) (fun hc => ?_)
    · refine numberOf_ok (b1.ext (ext_at e0 hq m1)) (by omega) ?_
      have h4 := deN_four hl
      rw [wrap64 (by omega) (by omega)]
      exact hK A1 r1 m1 z1
    · have hs : (mTake 4 st).2 = none := by
        have h5 : s.a.isNone = true := by
          cases q : s.a.isNone with
          | true => rfl
          | false => rw [q] at hc; cases hc
        rw [hn1] at h5
        cases q : (mTake 4 st).2 with
        | none => rfl
        | some x => rw [q] at h5; cases h5
      have h0 : (mTake 4 st).1 = [] := by
        cases st with
        | none => rfl
        | some l =>
          unfold mTake at hs ⊢
          simp only at hs ⊢
          split at hs
          · rename_i hq; rw [if_pos hq]
          · cases hs
      rw [h0] at hK
      exact hK A1 (by rw [hs] at r1; rw [hs]; exact r1) m1 z1
  · rw [e] at hK
    rw [e2] at r1 hn1
    refine br_f (by rw [hn1]; rfl) (hK A1 r1 m1 z1)
theorem text_ok {q : Nat} {st : Option (List UInt8)} {H0 A : Heap} {K : ByteArray → Heap → Prop} (e0 : Ext H0 A) (hq : H0.size ≤ q) (h : RdA H0 A q st)
    (hK : ∀ A', RdA H0 A' q (mTxt st).2 → Mod (fun b => b = q) A A' → A'.size = A.size → K (mTxt st).1 A') : manifest_reader_text.sp (at0 q) A K := by
  refine manifest_reader_text.of ?_
  unfold manifest_reader_text.vc
  refine number_ok e0 hq h fun A1 r1 m1 z1 => ?_
  refine take_ok r1 fun s A2 r2 b2 _ m2 z2 => ?_
  refine strB_eq (b2.ext (ext_at (ext_at e0 hq m1) hq m2)) ?_
  exact hK A2 r2 (m1.trans m2) (by omega)
end Go.Proofs.YtjjfngnokbboeaaDoor

/-
  Manifests: may one be? Are two the same? What bytes tell of one: the walk.
-/
namespace Go.Proofs.YtjjfngnokbboeaaDoor
open Go.MapKept

def ESv : Enc Sv := ⟨3, fun x => [.string x.rel, .string x.file, .int .i64 x.rows], fun _ => rfl, fun x u hu => by simp at hu; rcases hu with rfl | rfl | rfl <;> rfl⟩
theorem elSv : ElT Tryd.prog ty_sl_api_Saved ty_api_Saved ESv.size 40 := ElT_of (by kernel_rfl)
/-- The relations of a manifest, in memory. -/
structure Rels (H : Heap) (s : Sl) (l : List Sv) : Prop where
  rd : RdE ESv H s.a l
  n : s.n = l.length
theorem Rels.ext {H H' : Heap} {s : Sl} {l : List Sv} (h : Rels H s l) (e : Ext H H') : Rels H' s l := ⟨h.rd.ext e, h.n⟩
theorem Rels.nil (H : Heap) : Rels H (Sl.mk none 0 0) [] := ⟨Reads.nil _ _, rfl⟩
theorem SlE.rels {H : Heap} {s : Sl} {l : List Sv} (h : SlE ESv ty_api_Saved H s l) : Rels H s l := ⟨h.rd, h.n (by decide)⟩

theorem zc_fn : zc Tryd.prog ty_func_string_bool = #[.nilFunc] := by kernel_rfl
theorem zc_mf : zc Tryd.prog ty_api_Manifest = #[.int .u8 0, .int .i64 0, .string ByteArray.empty, .string ByteArray.empty, .slice none 0 0] := by kernel_rfl
theorem zc_sv : zc Tryd.prog ty_api_Saved = #[.string ByteArray.empty, .string ByteArray.empty, .int .i64 0] := by kernel_rfl
theorem size_mf : sizeB Tryd.prog ty_api_Manifest 5 = true := by kernel_rfl
theorem size_sv : sizeB Tryd.prog ty_api_Saved 3 = true := by kernel_rfl

theorem callB_func {P : Program} {g : FuncId} {caps : Array Value} {args : List Value} {H : Heap} {K : Bool → Heap → Prop} (arr : Array Value) (ha : (args ++ caps.toList).toArray = arr) (hc : callable P g = true) (h : SpecT cBool P g arr H K) : CallB P (.func (.func g) #[] caps) args H K := by
  unfold CallB
  simp only [hc, cond_true]
  subst ha
  simpa using h
theorem callV_func {c : Cod} {P : Program} {g : FuncId} {caps : Array Value} {args : List Value} {H : Heap} {K : c.α → Heap → Prop} (arr : Array Value) (ha : (args ++ caps.toList).toArray = arr) (hc : callable P g = true) (h : SpecT c P g arr H K) : CallV c P (.func (.func g) #[] caps) args H K := by
  unfold CallV
  simp only [hc, cond_true]
  subst ha
  simpa using h

theorem name_ok {s : ByteArray} {H : Heap} {K : Bool → Heap → Prop} (hK : K (decide ((s.size : Int) ≤ 100)) H) : manifest_may_c1.sp s H K := by
  refine manifest_may_c1.of ?_
  unfold manifest_may_c1.vc
  exact hK
theorem call_name : callable Tryd.prog manifest_may_c1.no = true := by kernel_rfl
theorem call_bad : callable Tryd.prog manifest_may_c2.no = true := by kernel_rfl
theorem ba_zero (s : ByteArray) : (s.toList == ByteArray.empty.toList) = decide (s.size = 0) := by
  rw [ByteArray.toList_eq, ByteArray.toList_eq]
  have : (s.data.toList == ByteArray.empty.data.toList) = decide (s.data.toList = []) := by
    cases s.data.toList <;> rfl
  rw [this]
  have h2 : s.data.toList.length = s.size := by rw [Array.length_toList]; rfl
  congr 1
  rw [← h2, List.length_eq_zero_iff]
set_option maxRecDepth 100000 in
theorem bad_ok {x : Sv} {c : Addr} {H : Heap} {K : Bool → Heap → Prop} (hc : VarT H c ty_func_string_bool (.func (.func manifest_may_c1.no) #[] #[])) (hK : ∀ H', Ext H H' → K (!(svOK x)) H') :
    manifest_may_c2.sp x.rel x.file x.rows c H K := by
  refine manifest_may_c2.of ?_
  unfold manifest_may_c2.vc
  refine newC_rowT fun H1 z1 r1 e1 => ?_
  have hK1 := hK H1 e1
  refine r1.ld (c := cStr) (i := 0) (x := x.rel) rfl ?_
  rw [ba_zero]
  unfold svOK at hK1
  refine br_mk (fun q => ?_) (fun q => ?_)
  · have q : x.rel.size = 0 := by simpa using q
    simpa [q] using hK1
  have q0 : x.rel.size ≠ 0 := by simpa using q
  refine r1.ld (c := cStr) (i := 0) (x := x.rel) rfl ?_
  refine br_mk (fun q => ?_) (fun q => ?_)
  · have q : ¬ x.rel.size ≤ 65536 := by simp at q; omega
    simpa [q] using hK1
  have q1 : x.rel.size ≤ 65536 := by simp at q; omega
  refine r1.ld (c := cStr) (i := 1) (x := x.file) rfl ?_
  rw [ba_zero]
  refine br_mk (fun q => ?_) (fun q => ?_)
  · have q : x.file.size = 0 := by simpa using q
    simpa [q] using hK1
  have q2 : x.file.size ≠ 0 := by simpa using q
  refine (hc.ext e1).ld (c := cRaw) (x := .func (.func manifest_may_c1.no) #[] #[]) ?_
  refine r1.ld (c := cStr) (i := 1) (x := x.file) rfl ?_
  refine callB_func #[.string x.file] rfl call_name ?_
  refine name_ok (s := x.file) ?_
  refine br_mk (fun q => ?_) (fun q => ?_)
  · have q : ¬ x.file.size ≤ 100 := by simp at q; omega
    simpa [q] using hK1
  have q3 : x.file.size ≤ 100 := by simp at q; omega
  refine r1.ld (c := cInt .i64) (i := 2) (x := x.rows) rfl ?_
  refine br_mk (fun q => ?_) (fun q => ?_)
  · have q : ¬ 0 ≤ x.rows := by simp at q; omega
    simpa [q] using hK1
  have q4 : 0 ≤ x.rows := by simp at q; omega
  refine r1.ld (c := cInt .i64) (i := 2) (x := x.rows) rfl ?_
  have e : (decide (x.rows > 2147483647)) = !(decide (x.rel.size ≠ 0) && decide (x.rel.size ≤ 65536) && decide (x.file.size ≠ 0) && decide (x.file.size ≤ 100) && decide (0 ≤ x.rows) && decide (x.rows ≤ 2147483647)) := by
    have e0 : (decide (x.rows > 2147483647)) = !(decide (x.rows ≤ 2147483647)) := by
      by_cases h : x.rows ≤ 2147483647
      · have : ¬ x.rows > 2147483647 := by omega
        simp [h]
      · have : x.rows > 2147483647 := by omega
        simp [h, this]
    rw [e0]
    simp [q0, q1, q2, q3, q4]
  rw [e]
  exact hK1

set_option maxRecDepth 100000 in
theorem index_ok {s : Sl} {l : List Sv} {c : Addr} {H : Heap} {K : Int → Heap → Prop} (h : Rels H s l) (hl : l.length < 4611686018427387904) (hc : VarT H c ty_func_string_bool (.func (.func manifest_may_c1.no) #[] #[]))
    (hK : ∀ r H', Ext H H' → decide (r ≥ 0) = !(l.all svOK) → K r H') : slices_IndexFunc_sl_api_Saved_api_Saved.sp s (.func (.func manifest_may_c2.no) #[] #[.pointer (some c)]) H K := by
  refine slices_IndexFunc_sl_api_Saved_api_Saved.of ?_
  unfold slices_IndexFunc_sl_api_Saved_api_Saved.vc
  have hn := h.n
  refine loop_upto l.length (fun i z A => z = (i : Int) ∧ Ext H A ∧ (l.take i).all svOK = true) ⟨rfl, .refl _ _, rfl⟩ ?_
  rintro i _ A next hi ⟨rfl, e, ha⟩ hnext
  refine br_mk (fun q => ?_) (fun q => ?_)
  · have hlt : i < l.length := by have : (i : Int) < (s.n : Int) := by simpa using q
                                  omega
    have hx : l[i]? = some l[i] := List.getElem?_eq_getElem hlt
    have rd := (h.ext e).rd
    obtain ⟨ad, had⟩ := rd.addr (by decide) (by omega)
    refine optK_mk ad had ⟨⟨by omega, by omega⟩, ?_⟩
    refine RdE.ldA (c := cAgg [cStr, cStr, cInt .i64]) (y := (l[i].rel, l[i].file, l[i].rows)) rd had hx rfl (n := (i : Int).toNat * 3) (by rw [Int.toNat_natCast]; rfl) rfl ?_
    refine callB_func #[.agg #[.string l[i].rel, .string l[i].file, .int .i64 l[i].rows], .pointer (some c)] rfl call_bad ?_
    refine bad_ok (x := l[i]) (hc.ext e) fun H1 e1 => ?_
    have ht : l.take (i + 1) = l.take i ++ [l[i]] := by rw [List.take_add_one, hx]; rfl
    refine br_mk (fun q2 => ?_) (fun q2 => ?_)
    · have q2 : svOK l[i] = false := by simpa using q2
      refine hK _ H1 (e.trans e1) ?_
      have : l.all svOK = false := by
        rw [List.all_eq_false]
        exact ⟨l[i], List.getElem_mem hlt, by simp [q2]⟩
      rw [this]; simp
    · have q2 : svOK l[i] = true := by simpa using q2
      exact hnext hlt _ _ ⟨succ64 i (by omega), e.trans e1, by rw [ht, List.all_append, ha]; simp [q2]⟩
  · have hge : i = l.length := by have : ¬ (i : Int) < (s.n : Int) := by simpa using q
                                  omega
    subst hge
    rw [List.take_length] at ha
    exact hK _ A e (by rw [ha]; rfl)
theorem contains_ok {s : Sl} {l : List Sv} {c : Addr} {H : Heap} {K : Bool → Heap → Prop} (h : Rels H s l) (hl : l.length < 4611686018427387904) (hc : VarT H c ty_func_string_bool (.func (.func manifest_may_c1.no) #[] #[]))
    (hK : ∀ H', Ext H H' → K (!(l.all svOK)) H') : slices_ContainsFunc_sl_api_Saved_api_Saved.sp s (.func (.func manifest_may_c2.no) #[] #[.pointer (some c)]) H K := by
  refine slices_ContainsFunc_sl_api_Saved_api_Saved.of ?_
  unfold slices_ContainsFunc_sl_api_Saved_api_Saved.vc
  refine index_ok h hl hc fun r H1 e1 hr => ?_
  rw [hr]
  exact hK H1 e1

set_option maxRecDepth 100000 in
theorem may_ok {m : Mf} {rs : Sl} {H : Heap} {K : Bool → Heap → Prop} (h : Rels H rs m.rels) (hl : m.rels.length < 4611686018427387904) (hK : ∀ H', Ext H H' → K (mayM m) H') :
    manifest_may.sp m.opts m.next m.input m.terms rs H K := by
  refine manifest_may.of ?_
  unfold manifest_may.vc
  have hn := h.n
  refine newC_rowT fun H1 z1 r1 e1 => ?_
  rw [zc_fn]
  refine newC_varT fun c H2 hc2 z2 v2 e2 => ?_
  refine v2.st rfl fun H3 v3 m3 z3 => ?_
  have e3 : Ext H H3 := ⟨by have := e1.size; have := e2.size; omega, fun b hb _ => (m3.same b (by have := e1.size; have := e2.size; omega) fun q => by have := e1.size; omega).trans ((e2.same b (by have := e1.size; omega) id).trans (e1.same b hb id))⟩
  have r3 : RowT H3 H.size ty_api_Manifest #[(.int .u8 m.opts), (.int .i64 m.next), (.string m.input), (.string m.terms), rs.v] := (r1.ext e2).mod m3 (by omega)
  have hK3 := hK H3 e3
  unfold mayM at hK
  have hk : ∀ H', Ext H3 H' → K (mayM m) H' := fun H' e => by unfold mayM; exact hK H' (e3.trans e)
  clear hK
  unfold mayM at hk
  refine r3.ld (c := cInt .i64) (i := 1) (x := m.next) rfl ?_
  refine br_mk (fun q => ?_) (fun q => ?neg1)
  case neg1 =>
    have q : ¬ 0 ≤ m.next := by simp at q; omega
    simpa [q] using hk H3 (.refl _ _)
  have q0 : 0 ≤ m.next := by simp at q; omega
  refine r3.ld (c := cInt .i64) (i := 1) (x := m.next) rfl ?_
  refine br_mk (fun q => ?_) (fun q => ?neg2)
  case neg2 =>
    have q : ¬ m.next ≤ 256 := by simp at q; omega
    simpa [q] using hk H3 (.refl _ _)
  have q1 : m.next ≤ 256 := by simp at q; omega
  refine r3.ld (c := cStr) (i := 2) (x := m.input) rfl ?_
  rw [ba_zero]
  refine br_mk (fun q => ?_) (fun q => ?neg3)
  case neg3 =>
    have q : m.input.size = 0 := by simpa using q
    simpa [q] using hk H3 (.refl _ _)
  have q2 : m.input.size ≠ 0 := by simpa using q
  refine v3.ld (c := cRaw) (x := .func (.func manifest_may_c1.no) #[] #[]) ?_
  refine r3.ld (c := cStr) (i := 2) (x := m.input) rfl ?_
  refine callB_func #[.string m.input] rfl call_name ?_
  refine name_ok (s := m.input) ?_
  refine br_mk (fun q => ?_) (fun q => ?neg4)
  case neg4 =>
    have q : ¬ m.input.size ≤ 100 := by simp at q; omega
    simpa [q] using hk H3 (.refl _ _)
  have q3 : m.input.size ≤ 100 := by simp at q; omega
  refine v3.ld (c := cRaw) (x := .func (.func manifest_may_c1.no) #[] #[]) ?_
  refine r3.ld (c := cStr) (i := 3) (x := m.terms) rfl ?_
  refine callB_func #[.string m.terms] rfl call_name ?_
  refine name_ok (s := m.terms) ?_
  refine br_mk (fun q => ?_) (fun q => ?neg5)
  case neg5 =>
    have q : ¬ m.terms.size ≤ 100 := by simp at q; omega
    simpa [q] using hk H3 (.refl _ _)
  have q4 : m.terms.size ≤ 100 := by simp at q; omega
  refine r3.ld (c := cSl) (i := 4) (x := rs) rfl ?_
  refine br_mk (fun q => ?_) (fun q => ?neg6)
  case neg6 =>
    have q : ¬ m.rels.length ≤ 256 := by simp at q; omega
    simpa [q] using hk H3 (.refl _ _)
  have q5 : m.rels.length ≤ 256 := by simp at q; omega
  refine r3.ld (c := cSl) (i := 4) (x := rs) rfl ?_
  refine contains_ok (h.ext e3) hl v3 fun H4 e4 => ?_
  simpa [q0, q1, q2, q3, q4, q5] using hk H4 e4
end Go.Proofs.YtjjfngnokbboeaaDoor

/-
  Manifests: what bytes tell of one: the walk.
-/
namespace Go.Proofs.YtjjfngnokbboeaaDoor
open Go.MapKept

/-- What the walk of 'Decode' asks behind the manifest's relations. -/
def decTail (p r_p p_1 : Addr) (n : Int) (H12 : Heap) (R : ((Int × Int × ByteArray × ByteArray × Sl) × Int) → Heap → Prop) : Prop :=
  ld cBool H12 (r_p.add 1) fun (x_5 : Bool) => br x_5 (doU Tryd.prog (Instr.storeAt ty_api_Manifest (.pointer (some p)) (.agg #[(.int .u8 (0 : Int)), (.int .i64 (0 : Int)), (.string ByteArray.empty), (.string ByteArray.empty), (.slice none 0 0)])) H12 fun H19 => ldA (cAgg [(cInt .u8), (cInt .i64), cStr, cStr, cSl]) 5 H19 p fun (res_2 : (Int × Int × ByteArray × ByteArray × Sl)) => R ((res_2.1, res_2.2.1, res_2.2.2.1, res_2.2.2.2.1, res_2.2.2.2.2), (280 : Int)) H19) (ld cSl H12 (r_p.add 0) fun (x_6 : Sl) => br (decide ((x_6.n : Int) > (0 : Int))) (doU Tryd.prog (Instr.storeAt ty_api_Manifest (.pointer (some p)) (.agg #[(.int .u8 (0 : Int)), (.int .i64 (0 : Int)), (.string ByteArray.empty), (.string ByteArray.empty), (.slice none 0 0)])) H12 fun H20 => ldA (cAgg [(cInt .u8), (cInt .i64), cStr, cStr, cSl]) 5 H20 p fun (res_3 : (Int × Int × ByteArray × ByteArray × Sl)) => R ((res_3.1, res_3.2.1, res_3.2.2.1, res_3.2.2.2.1, res_3.2.2.2.2), (280 : Int)) H20) (ld cSl H12 (p_1.add 4) fun (x_7 : Sl) => br ((x_7.n : Int) != n) (doU Tryd.prog (Instr.storeAt ty_api_Manifest (.pointer (some p)) (.agg #[(.int .u8 (0 : Int)), (.int .i64 (0 : Int)), (.string ByteArray.empty), (.string ByteArray.empty), (.slice none 0 0)])) H12 fun H21 => ldA (cAgg [(cInt .u8), (cInt .i64), cStr, cStr, cSl]) 5 H21 p fun (res_4 : (Int × Int × ByteArray × ByteArray × Sl)) => R ((res_4.1, res_4.2.1, res_4.2.2.1, res_4.2.2.2.1, res_4.2.2.2.2), (280 : Int)) H21) (ldA (cAgg [(cInt .u8), (cInt .i64), cStr, cStr, cSl]) 5 H12 p_1 fun (x_8 : (Int × Int × ByteArray × ByteArray × Sl)) => manifest_may.sp x_8.1 x_8.2.1 x_8.2.2.1 x_8.2.2.2.1 x_8.2.2.2.2 H12 fun (r_6 : Bool) H22 => br (!r_6) (doU Tryd.prog (Instr.storeAt ty_api_Manifest (.pointer (some p)) (.agg #[(.int .u8 (0 : Int)), (.int .i64 (0 : Int)), (.string ByteArray.empty), (.string ByteArray.empty), (.slice none 0 0)])) H22 fun H23 => ldA (cAgg [(cInt .u8), (cInt .i64), cStr, cStr, cSl]) 5 H23 p fun (res_5 : (Int × Int × ByteArray × ByteArray × Sl)) => R ((res_5.1, res_5.2.1, res_5.2.2.1, res_5.2.2.2.1, res_5.2.2.2.2), (280 : Int)) H23) (ldA (cAgg [(cInt .u8), (cInt .i64), cStr, cStr, cSl]) 5 H22 p_1 fun (x_9 : (Int × Int × ByteArray × ByteArray × Sl)) => doU Tryd.prog (Instr.storeAt ty_api_Manifest (.pointer (some p)) (.agg #[(.int .u8 x_9.1), (.int .i64 x_9.2.1), (.string x_9.2.2.1), (.string x_9.2.2.2.1), x_9.2.2.2.2.v])) H22 fun H24 => ldA (cAgg [(cInt .u8), (cInt .i64), cStr, cStr, cSl]) 5 H24 p fun (res_6 : (Int × Int × ByteArray × ByteArray × Sl)) => R ((res_6.1, res_6.2.1, res_6.2.2.1, res_6.2.2.2.1, res_6.2.2.2.2), (0 : Int)) H24))))
/-- Likewise, behind its head. -/
def decRest (p r_p p_1 : Addr) (G : Heap → Prop) (x_2 r : Int) (r_1 r_2 : ByteArray) (H9 : Heap) (R : ((Int × Int × ByteArray × ByteArray × Sl) × Int) → Heap → Prop) : Prop :=
  doU Tryd.prog (Instr.storeAt ty_api_Manifest (.pointer (some p_1)) (.agg #[(.int .u8 x_2), (.int .i64 r), (.string r_1), (.string r_2), (.slice none 0 0)])) H9 fun H10 => G H10 ∧ manifest_reader_number.sp (some r_p) H10 fun (n : Int) H11 => LoopVC Int (0 : Int) H11 fun next i H12 => br ((decide (i < n)) && (decide (i ≤ (256 : Int)))) (ld cBool H12 (r_p.add 1) fun (x_3 : Bool) => br (!x_3) (∃ G_1 : Heap → Prop, G_1 H12 ∧ ldC cSl G_1 (p_1.add 4) fun (x_4 : Sl) => manifest_reader_text.sp (some r_p) H12 fun (r_3 : ByteArray) H13 => G_1 H13 ∧ manifest_reader_text.sp (some r_p) H13 fun (r_4 : ByteArray) H14 => G_1 H14 ∧ manifest_reader_number.sp (some r_p) H14 fun (r_5 : Int) H15 => G_1 H15 ∧ newC H15 #[(.string r_3), (.string r_4), (.int .i64 r_5)] ty_api_Saved fun p_2 H16 => G_1 H16 ∧ doT cSl Tryd.prog (Builtin.append_ #[ty_sl_api_Saved, ty_sl_api_Saved] ty_sl_api_Saved #[x_4.v, (.slice (some p_2) 1 1)]) H16 fun (s : Sl) H17 => st H17 (p_1.add 4) s.v fun H18 => next (IntKind.i64.wrap (i + (1 : Int))) H18) (ld cBool H12 (r_p.add 1) fun (x_5 : Bool) => br x_5 (doU Tryd.prog (Instr.storeAt ty_api_Manifest (.pointer (some p)) (.agg #[(.int .u8 (0 : Int)), (.int .i64 (0 : Int)), (.string ByteArray.empty), (.string ByteArray.empty), (.slice none 0 0)])) H12 fun H19 => ldA (cAgg [(cInt .u8), (cInt .i64), cStr, cStr, cSl]) 5 H19 p fun (res_2 : (Int × Int × ByteArray × ByteArray × Sl)) => R ((res_2.1, res_2.2.1, res_2.2.2.1, res_2.2.2.2.1, res_2.2.2.2.2), (280 : Int)) H19) (ld cSl H12 (r_p.add 0) fun (x_6 : Sl) => br (decide ((x_6.n : Int) > (0 : Int))) (doU Tryd.prog (Instr.storeAt ty_api_Manifest (.pointer (some p)) (.agg #[(.int .u8 (0 : Int)), (.int .i64 (0 : Int)), (.string ByteArray.empty), (.string ByteArray.empty), (.slice none 0 0)])) H12 fun H20 => ldA (cAgg [(cInt .u8), (cInt .i64), cStr, cStr, cSl]) 5 H20 p fun (res_3 : (Int × Int × ByteArray × ByteArray × Sl)) => R ((res_3.1, res_3.2.1, res_3.2.2.1, res_3.2.2.2.1, res_3.2.2.2.2), (280 : Int)) H20) (ld cSl H12 (p_1.add 4) fun (x_7 : Sl) => br ((x_7.n : Int) != n) (doU Tryd.prog (Instr.storeAt ty_api_Manifest (.pointer (some p)) (.agg #[(.int .u8 (0 : Int)), (.int .i64 (0 : Int)), (.string ByteArray.empty), (.string ByteArray.empty), (.slice none 0 0)])) H12 fun H21 => ldA (cAgg [(cInt .u8), (cInt .i64), cStr, cStr, cSl]) 5 H21 p fun (res_4 : (Int × Int × ByteArray × ByteArray × Sl)) => R ((res_4.1, res_4.2.1, res_4.2.2.1, res_4.2.2.2.1, res_4.2.2.2.2), (280 : Int)) H21) (ldA (cAgg [(cInt .u8), (cInt .i64), cStr, cStr, cSl]) 5 H12 p_1 fun (x_8 : (Int × Int × ByteArray × ByteArray × Sl)) => manifest_may.sp x_8.1 x_8.2.1 x_8.2.2.1 x_8.2.2.2.1 x_8.2.2.2.2 H12 fun (r_6 : Bool) H22 => br (!r_6) (doU Tryd.prog (Instr.storeAt ty_api_Manifest (.pointer (some p)) (.agg #[(.int .u8 (0 : Int)), (.int .i64 (0 : Int)), (.string ByteArray.empty), (.string ByteArray.empty), (.slice none 0 0)])) H22 fun H23 => ldA (cAgg [(cInt .u8), (cInt .i64), cStr, cStr, cSl]) 5 H23 p fun (res_5 : (Int × Int × ByteArray × ByteArray × Sl)) => R ((res_5.1, res_5.2.1, res_5.2.2.1, res_5.2.2.2.1, res_5.2.2.2.2), (280 : Int)) H23) (ldA (cAgg [(cInt .u8), (cInt .i64), cStr, cStr, cSl]) 5 H22 p_1 fun (x_9 : (Int × Int × ByteArray × ByteArray × Sl)) => doU Tryd.prog (Instr.storeAt ty_api_Manifest (.pointer (some p)) (.agg #[(.int .u8 x_9.1), (.int .i64 x_9.2.1), (.string x_9.2.2.1), (.string x_9.2.2.2.1), x_9.2.2.2.2.v])) H22 fun H24 => ldA (cAgg [(cInt .u8), (cInt .i64), cStr, cStr, cSl]) 5 H24 p fun (res_6 : (Int × Int × ByteArray × ByteArray × Sl)) => R ((res_6.1, res_6.2.1, res_6.2.2.1, res_6.2.2.2.1, res_6.2.2.2.2), (0 : Int)) H24)))))) (ld cBool H12 (r_p.add 1) fun (x_10 : Bool) => br x_10 (doU Tryd.prog (Instr.storeAt ty_api_Manifest (.pointer (some p)) (.agg #[(.int .u8 (0 : Int)), (.int .i64 (0 : Int)), (.string ByteArray.empty), (.string ByteArray.empty), (.slice none 0 0)])) H12 fun H25 => ldA (cAgg [(cInt .u8), (cInt .i64), cStr, cStr, cSl]) 5 H25 p fun (res_7 : (Int × Int × ByteArray × ByteArray × Sl)) => R ((res_7.1, res_7.2.1, res_7.2.2.1, res_7.2.2.2.1, res_7.2.2.2.2), (280 : Int)) H25) (ld cSl H12 (r_p.add 0) fun (x_11 : Sl) => br (decide ((x_11.n : Int) > (0 : Int))) (doU Tryd.prog (Instr.storeAt ty_api_Manifest (.pointer (some p)) (.agg #[(.int .u8 (0 : Int)), (.int .i64 (0 : Int)), (.string ByteArray.empty), (.string ByteArray.empty), (.slice none 0 0)])) H12 fun H26 => ldA (cAgg [(cInt .u8), (cInt .i64), cStr, cStr, cSl]) 5 H26 p fun (res_8 : (Int × Int × ByteArray × ByteArray × Sl)) => R ((res_8.1, res_8.2.1, res_8.2.2.1, res_8.2.2.2.1, res_8.2.2.2.2), (280 : Int)) H26) (ld cSl H12 (p_1.add 4) fun (x_12 : Sl) => br ((x_12.n : Int) != n) (doU Tryd.prog (Instr.storeAt ty_api_Manifest (.pointer (some p)) (.agg #[(.int .u8 (0 : Int)), (.int .i64 (0 : Int)), (.string ByteArray.empty), (.string ByteArray.empty), (.slice none 0 0)])) H12 fun H27 => ldA (cAgg [(cInt .u8), (cInt .i64), cStr, cStr, cSl]) 5 H27 p fun (res_9 : (Int × Int × ByteArray × ByteArray × Sl)) => R ((res_9.1, res_9.2.1, res_9.2.2.1, res_9.2.2.2.1, res_9.2.2.2.2), (280 : Int)) H27) (ldA (cAgg [(cInt .u8), (cInt .i64), cStr, cStr, cSl]) 5 H12 p_1 fun (x_13 : (Int × Int × ByteArray × ByteArray × Sl)) => manifest_may.sp x_13.1 x_13.2.1 x_13.2.2.1 x_13.2.2.2.1 x_13.2.2.2.2 H12 fun (r_7 : Bool) H28 => br (!r_7) (doU Tryd.prog (Instr.storeAt ty_api_Manifest (.pointer (some p)) (.agg #[(.int .u8 (0 : Int)), (.int .i64 (0 : Int)), (.string ByteArray.empty), (.string ByteArray.empty), (.slice none 0 0)])) H28 fun H29 => ldA (cAgg [(cInt .u8), (cInt .i64), cStr, cStr, cSl]) 5 H29 p fun (res_10 : (Int × Int × ByteArray × ByteArray × Sl)) => R ((res_10.1, res_10.2.1, res_10.2.2.1, res_10.2.2.2.1, res_10.2.2.2.2), (280 : Int)) H29) (ldA (cAgg [(cInt .u8), (cInt .i64), cStr, cStr, cSl]) 5 H28 p_1 fun (x_14 : (Int × Int × ByteArray × ByteArray × Sl)) => doU Tryd.prog (Instr.storeAt ty_api_Manifest (.pointer (some p)) (.agg #[(.int .u8 x_14.1), (.int .i64 x_14.2.1), (.string x_14.2.2.1), (.string x_14.2.2.2.1), x_14.2.2.2.2.v])) H28 fun H30 => ldA (cAgg [(cInt .u8), (cInt .i64), cStr, cStr, cSl]) 5 H30 p fun (res_11 : (Int × Int × ByteArray × ByteArray × Sl)) => R ((res_11.1, res_11.2.1, res_11.2.2.1, res_11.2.2.2.1, res_11.2.2.2.2), (0 : Int)) H30)))))

theorem svs_snoc {N i : Nat} (hi : i < N) {b : List UInt8} {s0 : Option (List UInt8)} {acc : List Sv} (h1 : (mSvs N s0).1 = acc ++ (mSvs (N - i) (some b)).1) (h2 : (mSvs N s0).2 = (mSvs (N - i) (some b)).2) :
    (mSvs N s0).1 = (acc ++ [(mSv (some b)).1]) ++ (mSvs (N - (i + 1)) (mSv (some b)).2).1 ∧ (mSvs N s0).2 = (mSvs (N - (i + 1)) (mSv (some b)).2).2 := by
  obtain ⟨k, hk⟩ : ∃ k, N - i = k + 1 := ⟨N - i - 1, by omega⟩
  have hk2 : N - (i + 1) = k := by omega
  rw [hk] at h1 h2
  rw [hk2]
  have e : mSvs (k + 1) (some b) = ((mSv (some b)).1 :: (mSvs k (mSv (some b)).2).1, (mSvs k (mSv (some b)).2).2) := rfl
  rw [e] at h1 h2
  exact ⟨by rw [h1]; simp, h2⟩
theorem svs_none (k : Nat) : mSvs k none = ([], none) := by cases k <;> rfl
theorem num_lt (st : Option (List UInt8)) : (mNum st).1 < 4294967296 := by
  rcases num_take st with e | ⟨e, _⟩
  · rw [e]; exact deN_four (take_le st)
  · rw [e]; decide
def headM (o n : Int) (i t : ByteArray) (s : Sl) : Array Value := #[.int .u8 o, .int .i64 n, .string i, .string t, s.v]
theorem headM_one (o n : Int) (i t : ByteArray) (s : Sl) : ∀ v ∈ (headM o n i t s).toList, v.oneCell' = true := by
  intro v hv
  simp [headM] at hv
  rcases hv with rfl | rfl | rfl | rfl | rfl <;> rfl

theorem mf_put {A : Heap} {b : Nat} {cs : Array Value} {o n : Int} {i t : ByteArray} {s : Sl} {K : Heap → Prop} (r0 : RowT A b ty_api_Manifest cs) (hcs : cs.size = 5) (hK : ∀ A', RowT A' b ty_api_Manifest (headM o n i t s) → Mod (fun x => x = b) A A' → A'.size = A.size → K A') :
    doU Tryd.prog (Instr.storeAt ty_api_Manifest (.pointer (some ⟨b, 0, none⟩)) (.agg #[(.int .u8 o), (.int .i64 n), (.string i), (.string t), s.v])) A K :=
  r0.stAll (cs := headM o n i t s) size_mf (by rw [hcs]; rfl) (headM_one _ _ _ _ _) hK
theorem mf_ld {A : Heap} {b : Nat} {o n : Int} {i t : ByteArray} {s : Sl} {K : (Int × Int × ByteArray × ByteArray × Sl) → Prop} (r0 : RowT A b ty_api_Manifest (headM o n i t s)) (hK : K (o, n, i, t, s)) :
    ldA (cAgg [(cInt .u8), (cInt .i64), cStr, cStr, cSl]) 5 A ⟨b, 0, none⟩ K :=
  r0.ldA (c := cAgg [(cInt .u8), (cInt .i64), cStr, cStr, cSl]) (x := (o, n, i, t, s)) rfl rfl hK
def failM : (Int × Int × ByteArray × ByteArray × Sl) × Int := ((0, 0, ByteArray.empty, ByteArray.empty, Sl.mk none 0 0), 280)
theorem dec_fail {A : Heap} {b : Nat} {cs : Array Value} {R : ((Int × Int × ByteArray × ByteArray × Sl) × Int) → Heap → Prop} (r0 : RowT A b ty_api_Manifest cs) (hcs : cs.size = 5) (hK : ∀ A', Mod (fun x => x = b) A A' → R failM A') :
    doU Tryd.prog (Instr.storeAt ty_api_Manifest (.pointer (some ⟨b, 0, none⟩)) (.agg #[(.int .u8 (0 : Int)), (.int .i64 (0 : Int)), (.string ByteArray.empty), (.string ByteArray.empty), (.slice none 0 0)])) A
      fun H4 => ldA (cAgg [(cInt .u8), (cInt .i64), cStr, cStr, cSl]) 5 H4 ⟨b, 0, none⟩ fun (res : (Int × Int × ByteArray × ByteArray × Sl)) => R ((res.1, res.2.1, res.2.2.1, res.2.2.2.1, res.2.2.2.2), (280 : Int)) H4 :=
  mf_put (s := Sl.mk none 0 0) r0 hcs fun A' r1 m1 _ => mf_ld r1 (hK A' m1)

set_option maxRecDepth 100000 in
theorem dec_tail {H0 A : Heap} {b0 q b1 n : Nat} {cs : Array Value} {s : Option (List UInt8)} {acc : List Sv} {rs : Sl} {R : ((Int × Int × ByteArray × ByteArray × Sl) × Int) → Heap → Prop} {o nx : Int} {it tt : ByteArray}
    (e : Ext H0 A) (h0 : H0.size ≤ b0) (h01 : b0 ≠ b1) (r0 : RowT A b0 ty_api_Manifest cs) (hcs : cs.size = 5) (rd : RdA H0 A q s) (r1 : RowT A b1 ty_api_Manifest (headM o nx it tt rs)) (hr : SlE ESv ty_api_Saved A rs acc) (hacc : acc.length ≤ 1000)
    (hK0 : ¬ (s = some [] ∧ acc.length = n ∧ mayM ⟨o, nx, it, tt, acc⟩ = true) → ∀ A', Ext H0 A' → R failM A')
    (hK1 : s = some [] → acc.length = n → mayM ⟨o, nx, it, tt, acc⟩ = true → ∀ A', SlE ESv ty_api_Saved A' rs acc → Ext H0 A' → R ((o, nx, it, tt, rs), 0) A') : decTail ⟨b0, 0, none⟩ ⟨q, 0, none⟩ ⟨b1, 0, none⟩ (n : Int) A R := by
  unfold decTail
  have ext0 : ∀ {B B' : Heap}, Ext H0 B → Mod (fun x => x = b0) B B' → Ext H0 B' := fun e m => ext_at e h0 m
  refine rd.short ?_
  refine br_mk (fun hc => dec_fail r0 hcs fun A' m => hK0 (fun hh => by rw [hh.1] at hc; cases hc) A' (ext0 e m)) (fun hc => ?_)
  cases s with
  | none => cases hc
  | some l =>
  obtain ⟨sl, q1, q2, q3⟩ := rd
  have hn := q2.n
  refine q1.ld (c := cSl) (i := 0) (x := sl) rfl ?_
  refine br_mk (fun hc2 => dec_fail r0 hcs fun A' m => hK0 (fun hh => by
    have : l = [] := Option.some.inj hh.1
    subst this
    rw [hn] at hc2; simp at hc2) A' (ext0 e m)) (fun hc2 => ?_)
  have hl0 : l = [] := by
    rw [hn] at hc2
    have : ¬ (l.length : Int) > 0 := by simpa using hc2
    exact List.eq_nil_of_length_eq_zero (by omega)
  subst hl0
  have hrn := hr.n (by decide)
  refine r1.ld (c := cSl) (i := 4) (x := rs) rfl ?_
  refine br_mk (fun hc3 => dec_fail r0 hcs fun A' m => hK0 (fun hh => by
    rw [hrn, hh.2.1] at hc3; simp at hc3) A' (ext0 e m)) (fun hc3 => ?_)
  have hnn : acc.length = n := by
    rw [hrn] at hc3
    have : (acc.length : Int) = (n : Int) := by simpa using hc3
    omega
  refine mf_ld r1 ?_
  refine may_ok (m := ⟨o, nx, it, tt, acc⟩) hr.rels (by simp only; omega) fun A1 e1 => ?_
  have r0' := r0.ext e1
  have r1' := r1.ext e1
  refine br_mk (fun hc4 => dec_fail r0' hcs fun A' m => hK0 (fun hh => by rw [hh.2.2] at hc4; cases hc4) A' (ext0 (e.trans e1) m)) (fun hc4 => ?_)
  have hm : mayM ⟨o, nx, it, tt, acc⟩ = true := by
    cases q : mayM ⟨o, nx, it, tt, acc⟩ with
    | true => rfl
    | false => rw [q] at hc4; cases hc4
  refine mf_ld r1' ?_
  refine mf_put r0' hcs fun A2 r2 m2 _ => mf_ld r2 ?_
  refine hK1 rfl hnn hm A2 ((hr.ext e1).keep fun b hb hl => m2.same b hl fun q => ?_) (ext0 (e.trans e1) m2)
  obtain ⟨c, hc5⟩ := (hr.ext e1).obj b hb
  rw [q] at hc5
  exact absurd (cells_ty r0' hc5) (by decide)

set_option maxHeartbeats 2000000 in
set_option maxRecDepth 100000 in
theorem dec_rest {H0 H9 : Heap} {b0 q b1 : Nat} {cs : Array Value} {l : List UInt8} {G : Heap → Prop} {R : ((Int × Int × ByteArray × ByteArray × Sl) × Int) → Heap → Prop} {o nx : Int} {it tt : ByteArray} {s st : Option (List UInt8)} (hs : s = some (l.drop 2))
    (e9 : Ext H0 H9) (h0 : H0.size ≤ b0) (hq : H0.size ≤ q) (h1 : H0.size ≤ b1) (h0q : b0 ≠ q) (h01 : b0 ≠ b1) (hq1 : q ≠ b1) (r0 : RowT H9 b0 ty_api_Manifest cs) (hcs : cs.size = 5) (r1 : RowT H9 b1 ty_api_Manifest (zc Tryd.prog ty_api_Manifest)) (rd : RdA H0 H9 q st)
    (hl2 : 2 ≤ l.length) (hhead : l.getD 0 0 = 1) (ho : o = ((l.getD 1 0).toNat : Int)) (hnx : nx = ((mNum s).1 : Int)) (hit : it = (mTxt (mNum s).2).1) (htt : tt = (mTxt (mTxt (mNum s).2).2).1) (hst : st = (mTxt (mTxt (mNum s).2).2).2)
    (hG : ∀ H', Mod (fun b => b = b1) H9 H' → G H')
    (hK0 : decM l = none → ∀ A', Ext H0 A' → R failM A')
    (hK1 : ∀ m rs A', decM l = some m → SlE ESv ty_api_Saved A' rs m.rels → (∀ b, ownB rs b → H0.size ≤ b) → Ext H0 A' → R ((m.opts, m.next, m.input, m.terms, rs), 0) A') :
    decRest ⟨b0, 0, none⟩ ⟨q, 0, none⟩ ⟨b1, 0, none⟩ G o nx it tt H9 R := by
  unfold decRest
  have z9 := e9.size
  rw [zc_mf] at r1
  refine mf_put (s := Sl.mk none 0 0) r1 rfl fun H10 r10 m10 z10 => ?_
  refine ⟨hG H10 m10, ?_⟩
  have e10 : Ext H0 H10 := ext_at e9 h1 m10
  have rd10 : RdA H0 H10 q st := rd.mod m10 hq1
  have r010 := r0.mod m10 h01
  refine number_ok e10 hq rd10 fun H11 rd11 m11 z11 => ?_
  have hlt := num_lt st
  have hdec : decM l = if (mSvs (min (mNum st).1 257) (mNum st).2).2 = some [] ∧ (mSvs (min (mNum st).1 257) (mNum st).2).1.length = (mNum st).1 ∧ mayM ⟨o, nx, it, tt, (mSvs (min (mNum st).1 257) (mNum st).2).1⟩ = true then some ⟨o, nx, it, tt, (mSvs (min (mNum st).1 257) (mNum st).2).1⟩ else none := by
    unfold decM
    rw [if_neg (by rw [hhead]; simp; omega)]
    unfold rdM mHead
    simp only
    rw [← hs, ho, hnx, hit, htt, hst]
  generalize hn : (mNum st).1 = n at *
  generalize hs0 : (mNum st).2 = s0 at *
  have tail : ∀ (A : Heap) (acc : List Sv) (rs : Sl) (sx : Option (List UInt8)), Ext H0 A → RdA H0 A q sx → RowT A b1 ty_api_Manifest (headM o nx it tt rs) → SlE ESv ty_api_Saved A rs acc → (∀ b, ownB rs b → H0.size ≤ b) → RowT A b0 ty_api_Manifest cs → acc.length ≤ 257 →
      (mSvs (min n 257) s0).1 = acc → (mSvs (min n 257) s0).2 = sx → decTail ⟨b0, 0, none⟩ ⟨q, 0, none⟩ ⟨b1, 0, none⟩ (n : Int) A R := by
    intro A acc rs sx eA rdA rA hA fA r0A hacc hx1 hx2
    rw [hx1, hx2] at hdec
    refine dec_tail eA h0 h01 r0A hcs rdA rA hA (by omega) (fun hno A' e' => hK0 ?_ A' e') (fun q1 q2 q3 A' hA' e' => hK1 ⟨o, nx, it, tt, acc⟩ rs A' ?_ hA' fA e')
    · rw [hdec, if_neg hno]
    · rw [hdec, if_pos ⟨q1, q2, q3⟩]
  refine loop_upto (min n 257) (fun i z A => z = (i : Int) ∧ ∃ acc rs sx, Ext H0 A ∧ RdA H0 A q sx ∧ RowT A b1 ty_api_Manifest (headM o nx it tt rs) ∧ SlE ESv ty_api_Saved A rs acc ∧ (∀ b, ownB rs b → H0.size ≤ b) ∧ RowT A b0 ty_api_Manifest cs ∧ acc.length = i ∧
    (mSvs (min n 257) s0).1 = acc ++ (mSvs (min n 257 - i) sx).1 ∧ (mSvs (min n 257) s0).2 = (mSvs (min n 257 - i) sx).2)
    ⟨rfl, [], Sl.mk none 0 0, s0, ext_at e10 hq m11, rd11, r10.mod m11 (fun x => hq1 x.symm), SlE.nil _ _ _, fun b hb => (by obtain ⟨_, q, _⟩ := hb; cases q), r010.mod m11 h0q, rfl, by simp, by simp⟩ ?_
  rintro i _ A next hi ⟨rfl, acc, rs, sx, eA, rdx, rA, hA, fA, r0A, hacc, hx1, hx2⟩ hnext
  refine br_mk (fun hc => ?_) (fun hc => ?_)
  · have hiN : i < min n 257 := by
      simp only [Bool.and_eq_true, decide_eq_true_eq] at hc
      omega
    refine rdx.short ?_
    refine br_mk (fun hc2 => ?_) (fun hc2 => ?_)
    · cases sx with
      | none => cases hc2
      | some bx =>
      obtain ⟨y1, y2⟩ := svs_snoc hiN hx1 hx2
      refine ⟨fun A' => RowT A' b1 ty_api_Manifest (headM o nx it tt rs), rA, RowT.ldC (c := cSl) (i := 4) (x := rs) (cs := fun _ => headM o nx it tt rs) (fun _ h => h) (fun _ _ => rfl) ?_⟩
      have hqb : ∀ {B B' : Heap}, RowT B b1 ty_api_Manifest (headM o nx it tt rs) → Mod (fun b => b = q) B B' → RowT B' b1 ty_api_Manifest (headM o nx it tt rs) := fun r m => r.mod m fun x => hq1 x.symm
      have hrq : ∀ {B B' : Heap}, SlE ESv ty_api_Saved B rs acc → (∃ cs', RowT B q ty_manifest_reader cs') → Mod (fun b => b = q) B B' → SlE ESv ty_api_Saved B' rs acc := fun h r m => h.keep fun b hb hl => m.same b hl fun x => by
        obtain ⟨c, hc5⟩ := h.obj b hb
        obtain ⟨cs', r⟩ := r
        rw [x] at hc5
        exact absurd (cells_ty r hc5) (by decide)
      have hrow : ∀ {B : Heap} {sy : Option (List UInt8)}, RdA H0 B q sy → ∃ cs', RowT B q ty_manifest_reader cs' := fun {B sy} h => by
        cases sy with
        | none => exact ⟨_, h⟩
        | some l => obtain ⟨_, r, _⟩ := h; exact ⟨_, r⟩
      refine text_ok eA hq rdx fun A1 d1 m1 z1 => ⟨hqb rA m1, ?_⟩
      have e1 := ext_at eA hq m1
      have o1 := hrq hA (hrow rdx) m1
      refine text_ok e1 hq d1 fun A2 d2 m2 z2 => ⟨hqb (hqb rA m1) m2, ?_⟩
      have e2 := ext_at e1 hq m2
      have o2 := hrq o1 (hrow d1) m2
      refine number_ok e2 hq d2 fun A3 d3 m3 z3 => ⟨hqb (hqb (hqb rA m1) m2) m3, ?_⟩
      have e3 := ext_at e2 hq m3
      have o3 := hrq o2 (hrow d2) m3
      have r3 := hqb (hqb (hqb rA m1) m2) m3
      have r03 := ((r0A.mod m1 h0q).mod m2 h0q).mod m3 h0q
      refine SlE.pushJ (E := ESv) elSv (x := (mSv (some bx)).1) o3 rfl (by omega) (by omega) (fun A' => RowT A' b1 ty_api_Manifest (headM o nx it tt rs)) (fun A' _ e => r3.ext e) fun rs' A4 o4 g4 _ => ?_
      have offb : ∀ {b : Nat} {t : TypeId} {cs' : Array Value}, RowT A3 b t cs' → t ≠ ty_api_Saved → ¬ ownB rs b := fun r ht hb => by
        obtain ⟨c, hc5⟩ := o3.obj _ hb
        exact ht (cells_ty r hc5)
      have r4 := r3.mod g4.1 (offb r3 (by decide))
      have d4 := d3.mod g4.1 (by obtain ⟨cs', r⟩ := hrow d3; exact offb r (by decide))
      have r04 := r03.mod g4.1 (offb r03 (by decide))
      have e4 : Ext H0 A4 := ⟨Nat.le_trans e3.size g4.1.size, fun b hb _ => (g4.1.same b (Nat.lt_of_lt_of_le hb e3.size) fun x => by have := fA b x; omega).trans (e3.same b hb id)⟩
      have f4 : ∀ b, ownB rs' b → H0.size ≤ b := fun b hb => by
        rcases g4.2 b hb with x | x
        · exact fA b x
        · exact Nat.le_trans e3.size x
      refine r4.st (i := 4) (by show 4 < 5; decide) rfl fun A5 r5 m5 z5 => ?_
      have offc : ∀ {b : Nat} {t : TypeId} {cs' : Array Value}, RowT A4 b t cs' → t ≠ ty_api_Saved → ¬ ownB rs' b := fun r ht hb => by
        obtain ⟨c, hc5⟩ := o4.obj _ hb
        exact ht (cells_ty r hc5)
      refine hnext hiN _ _ ⟨succ64 i (by omega), acc ++ [(mSv (some bx)).1], rs', (mSv (some bx)).2, ext_at e4 h1 m5, d4.mod m5 hq1, r5, o4.keep fun b hb hl => m5.same b hl fun x => offc r4 (by decide) (x ▸ hb), f4, r04.mod m5 h01, by simp [hacc], y1, y2⟩
    · cases sx with
      | some bx => cases hc2
      | none =>
      rw [svs_none] at hx1 hx2
      exact tail A acc rs none eA rdx rA hA fA r0A (by omega) (by simpa using hx1) hx2
  · have hge : i = min n 257 := by
      simp only [Bool.and_eq_false_iff, decide_eq_false_iff_not] at hc
      omega
    rw [hge, Nat.sub_self] at hx1 hx2
    exact tail A acc rs sx eA rdx rA hA fA r0A (by omega) (by simpa [mSvs] using hx1) hx2

set_option maxHeartbeats 2000000 in
set_option maxRecDepth 100000 in
theorem Decode_ok {b : Sl} {l : List UInt8} {H : Heap} {R : ((Int × Int × ByteArray × ByteArray × Sl) × Int) → Heap → Prop} (hb : Byts H b l) (hc : b.n ≤ b.c) (hl : l.length < 4611686018427387904)
    (hK0 : decM l = none → ∀ A', Ext H A' → R failM A')
    (hK1 : ∀ m rs A', decM l = some m → SlE ESv ty_api_Saved A' rs m.rels → (∀ b, ownB rs b → H.size ≤ b) → Ext H A' → R ((m.opts, m.next, m.input, m.terms, rs), 0) A') : manifest_Decode.sp b H R := by
  refine manifest_Decode.of ?_
  unfold manifest_Decode.vc
  rw [zc_mf]
  refine newC_rowT fun H1 z1 r1 e1 => ?_
  refine newC_rowT fun H2 z2 r2 e2 => ?_
  have e12 : Ext H H2 := e1.trans e2
  have rd2 : RdA H H2 H1.size (some l) := ⟨b, r2, hb, hc⟩
  refine take_ok (n := 2) rd2 fun hd H3 d3 b3 n3 m3 z3 => ?_
  have e3 : Ext H H3 := ext_at e12 (by omega) m3
  have r13 : RowT H3 H.size ty_api_Manifest #[.int .u8 0, .int .i64 0, .string ByteArray.empty, .string ByteArray.empty, .slice none 0 0] := (r1.ext e2).mod m3 (by omega)
  refine d3.short ?_
  by_cases h2 : l.length < 2
  · have et : mTake 2 (some l) = ([], none) := by unfold mTake; simp only; rw [if_pos h2]
    rw [et]
    refine br_t rfl ?_
    refine dec_fail r13 rfl fun A' m => hK0 (by unfold decM; rw [if_pos (.inl h2)]) A' (ext_at e3 (Nat.le_refl _) m)
  have et : mTake 2 (some l) = (l.take 2, some (l.drop 2)) := by unfold mTake; simp only; rw [if_neg h2]
  rw [et] at b3 d3 ⊢
  have b3 : Byts H hd (l.take 2) := b3
  have d3 : RdA H H3 H1.size (some (l.drop 2)) := d3
  refine br_f rfl ?_
  have hn2 : hd.n = 2 := by rw [b3.n, List.length_take]; omega
  have b33 := b3.ext e3
  have hlen2 : (l.take 2).length = 2 := by rw [List.length_take]; omega
  have g0 : (l.take 2)[0]'(by omega) = l.getD 0 0 := by rw [List.getElem_take, List.getD, List.getElem?_eq_getElem (by omega)]; rfl
  have g1 : (l.take 2)[1]'(by omega) = l.getD 1 0 := by rw [List.getElem_take, List.getD, List.getElem?_eq_getElem (by omega)]; rfl
  refine byte_of b33 (i := 0) (by omega) rfl fun ad ha => ?_
  rw [g0]
  refine br_mk (fun q => ?_) (fun q => ?_)
  · have q : l.getD 0 0 ≠ 1 := fun h => by rw [h] at q; simp at q
    refine dec_fail r13 rfl fun A' m => hK0 (by unfold decM; rw [if_pos (.inr q)]) A' (ext_at e3 (Nat.le_refl _) m)
  have h1 : l.getD 0 0 = 1 := by
    have : ((l.getD 0 0).toNat : Int) = 1 := by simpa using q
    have h3 : (l.getD 0 0).toNat = 1 := by omega
    exact UInt8.toNat_inj.1 (by rw [h3]; rfl)
  -- the class of heaps: only the reader is turned
  have hadb : ad.block < H.size := by
    obtain ⟨ad', ha', hb'⟩ := b3.addr (by omega)
    rw [ha] at ha'; cases ha'; exact hb'
  refine ⟨fun A => Mod (fun x => x = H1.size) H3 A, .refl _ _, ?_⟩
  have hld : ∀ {K : Int → Prop}, K ((l.getD 1 0).toNat : Int) → ldC (cInt .u8) (fun A => Mod (fun x => x = H1.size) H3 A) (ad.add ((1 : Int).toNat * 1)) K := by
    intro K hK
    refine ⟨_, fun A hA => ?_, hK⟩
    obtain ⟨ad', ha', hcell⟩ := (Ints.at (k := .u8) b33 (i := 1) (by simp [u8i]; omega))
    rw [ha] at ha'; cases ha'
    have hv : (u8i (l.take 2))[1]'(by simp [u8i]; omega) = ((l.getD 1 0).toNat : Int) := by
      unfold u8i
      rw [List.getElem_map, g1]
    rw [hv] at hcell
    exact hA.cell hcell (by rw [add_block]; omega)
  refine optK_mk ad ha ⟨⟨by omega, by omega⟩, hld ?_⟩
  have fin : ∀ {H9 : Heap} {b1 : Nat}, Mod (fun x => x = H1.size) H3 H9 → H3.size ≤ b1 → RowT H9 b1 ty_api_Manifest #[.int .u8 0, .int .i64 0, .string ByteArray.empty, .string ByteArray.empty, .slice none 0 0] → RdA H H9 H1.size (mTxt (mTxt (mNum (some (l.drop 2))).2).2).2 →
      decRest ⟨H.size, 0, none⟩ ⟨H1.size, 0, none⟩ ⟨b1, 0, none⟩ (fun A => Mod (fun x => x = H1.size) H3 A) ((l.getD 1 0).toNat : Int) ((mNum (some (l.drop 2))).1 : Int) (mTxt (mNum (some (l.drop 2))).2).1 (mTxt (mTxt (mNum (some (l.drop 2))).2).2).1 H9 R := by
    intro H9 b1 m9 hb1 r9 d9
    refine dec_rest (s := some (l.drop 2)) rfl (ext_at e3 (by omega) m9) (Nat.le_refl _) (by omega) (by omega) (by omega) (by omega) (by omega) (r13.mod m9 (by omega)) rfl (by rw [zc_mf]; exact r9) d9 (by omega) h1 rfl rfl rfl rfl rfl (fun H' m => m9.trans' m fun b hb q => by omega) hK0 hK1
  have stepE : ∀ {A : Heap}, Mod (fun x => x = H1.size) H3 A → Ext H A := fun m => ext_at e3 (by omega) m
  have hq : H.size ≤ H1.size := by omega
  have rowQ : ∀ {A B : Heap} {b1 : Nat} {cs : Array Value}, H3.size ≤ b1 → RowT A b1 ty_api_Manifest cs → Mod (fun x => x = H1.size) A B → RowT B b1 ty_api_Manifest cs := fun hb r m => r.mod m (by omega)
  refine ⟨?_, ?_, trivial⟩
  · refine number_ok e3 hq d3 fun A1 d1 m1 y1 => ⟨m1, ?_, ?_, trivial⟩
    · refine text_ok (stepE m1) hq d1 fun A2 d2 m2 y2 => ⟨m1.trans m2, ?_, ?_, trivial⟩
      · refine text_ok (stepE (m1.trans m2)) hq d2 fun A4 d4 m4 y4 => ⟨(m1.trans m2).trans m4, ?_⟩
        refine newC_rowT fun A5 y5 r5 e5 => ⟨((m1.trans m2).trans m4).trans (Ext.mod e5), ?_⟩
        exact fin (((m1.trans m2).trans m4).trans (Ext.mod e5)) (by omega) r5 (d4.ext e5)
      · refine newC_rowT fun A5 y5 r5 e5 => ⟨(m1.trans m2).trans (Ext.mod e5), ?_⟩
        have m5 := (m1.trans m2).trans (Ext.mod (F := fun x => x = H1.size) e5)
        refine text_ok (stepE m5) hq (d2.ext e5) fun A4 d4 m4 y4 => ⟨m5.trans m4, ?_⟩
        exact fin (m5.trans m4) (by omega) (rowQ (by omega) r5 m4) d4
    · refine newC_rowT fun A5 y5 r5 e5 => ⟨m1.trans (Ext.mod e5), ?_⟩
      have m5 := m1.trans (Ext.mod (F := fun x => x = H1.size) e5)
      refine text_ok (stepE m5) hq (d1.ext e5) fun A2 d2 m2 y2 => ⟨m5.trans m2, ?_⟩
      refine text_ok (stepE (m5.trans m2)) hq d2 fun A4 d4 m4 y4 => ⟨(m5.trans m2).trans m4, ?_⟩
      exact fin ((m5.trans m2).trans m4) (by omega) (rowQ (by omega) r5 (m2.trans m4)) d4
  · refine newC_rowT fun A5 y5 r5 e5 => ⟨Ext.mod e5, ?_⟩
    have m5 := Ext.mod (F := fun x => x = H1.size) e5
    refine number_ok (stepE m5) hq (d3.ext e5) fun A1 d1 m1 y1 => ⟨m5.trans m1, ?_⟩
    refine text_ok (stepE (m5.trans m1)) hq d1 fun A2 d2 m2 y2 => ⟨(m5.trans m1).trans m2, ?_⟩
    refine text_ok (stepE ((m5.trans m1).trans m2)) hq d2 fun A4 d4 m4 y4 => ⟨((m5.trans m1).trans m2).trans m4, ?_⟩
    exact fin (((m5.trans m1).trans m2).trans m4) (by omega) (rowQ (by omega) r5 ((m1.trans m2).trans m4)) d4
end Go.Proofs.YtjjfngnokbboeaaDoor

/-
  The document's manifests: numbers and texts in bytes; what takes bytes apart: the walk.
-/
namespace Go.Proofs.YtjjfngnokbboeaaDoor
open Go.MapKept

theorem shrI (n k : Nat) (hk : k ≤ 64) : ishr .i64 (n : Int) (k : Int) = ((n / 2 ^ k : Nat) : Int) := by
  unfold ishr
  have : min (k : Int).toNat IntKind.i64.bits = k := by
    show min (k : Int).toNat 64 = k
    omega
  rw [this, Int.fdiv_eq_ediv_of_nonneg _ (Int.pow_nonneg (by decide)), Int.natCast_ediv, Int.natCast_pow]
  rfl
theorem orI {k r b : Nat} (hb : b < 2 ^ k) (h : 2 ^ k * r + b < 9223372036854775808) : ior .i64 ((2 ^ k * r : Nat) : Int) (b : Int) = ((2 ^ k * r + b : Nat) : Int) := by
  unfold ior
  have hor := Nat.two_pow_add_eq_or_of_lt (i := k) (b := b) hb r
  have hb64 : IntKind.i64.bits = 64 := rfl
  have e3 : (BitVec.ofInt IntKind.i64.bits ((2 ^ k * r : Nat) : Int) ||| BitVec.ofInt IntKind.i64.bits ((b : Nat) : Int)).toNat = 2 ^ k * r + b := by
    rw [BitVec.ofInt_natCast, BitVec.ofInt_natCast, BitVec.toNat_or, BitVec.toNat_ofNat, BitVec.toNat_ofNat, hb64, Nat.mod_eq_of_lt (by omega), Nat.mod_eq_of_lt (by omega)]
    exact hor.symm
  rw [e3]
  exact wrap64 (by omega) (by omega)
theorem shlI {x k : Nat} (hk : k ≤ 24) (hx : x < 256) : ishl .i64 (IntKind.i64.wrap (x : Int)) (k : Int) = ((2 ^ k * x : Nat) : Int) := by
  unfold ishl
  have : min (k : Int).toNat IntKind.i64.bits = k := by
    show min (k : Int).toNat 64 = k
    omega
  have hp : 2 ^ k ≤ 2 ^ 24 := Nat.pow_le_pow_right (by decide) hk
  have hm : 2 ^ k * x ≤ 2 ^ 24 * 255 := Nat.mul_le_mul hp (by omega)
  have e1 : ((x : Int) * 2 ^ k) = ((2 ^ k * x : Nat) : Int) := by rw [Int.natCast_mul, Int.natCast_pow, Int.mul_comm]; rfl
  rw [this, wrap64 (x := (x : Int)) (by omega) (by omega), e1]
  exact wrap64 (by omega) (by omega)
theorem or_four {a b c d : Nat} (ha : a < 256) (hb : b < 256) (hc : c < 256) (hd : d < 256) :
    ior .i64 (ior .i64 (ior .i64 (ishl .i64 (IntKind.i64.wrap (a : Int)) 24) (ishl .i64 (IntKind.i64.wrap (b : Int)) 16)) (ishl .i64 (IntKind.i64.wrap (c : Int)) 8)) (IntKind.i64.wrap (d : Int)) = ((((a * 256 + b) * 256 + c) * 256 + d : Nat) : Int) := by
  have s1 := shlI (k := 24) (by decide) ha
  have s2 := shlI (k := 16) (by decide) hb
  have s3 := shlI (k := 8) (by decide) hc
  have s4 : IntKind.i64.wrap (d : Int) = (d : Int) := wrap64 (by omega) (by omega)
  have h24 : (2 : Nat) ^ 24 = 16777216 := by decide
  have h16 : (2 : Nat) ^ 16 = 65536 := by decide
  have h8 : (2 : Nat) ^ 8 = 256 := by decide
  rw [h24] at s1; rw [h16] at s2; rw [h8] at s3
  rw [show ((24 : Int)) = ((24 : Nat) : Int) from rfl, show ((16 : Int)) = ((16 : Nat) : Int) from rfl, show ((8 : Int)) = ((8 : Nat) : Int) from rfl, s1, s2, s3, s4]
  have o1 := orI (k := 24) (r := a) (b := 65536 * b) (by rw [h24]; omega) (by rw [h24]; omega)
  rw [h24] at o1
  rw [o1]
  have o2 := orI (k := 16) (r := 256 * a + b) (b := 256 * c) (by rw [h16]; omega) (by rw [h16]; omega)
  rw [h16] at o2
  rw [show (16777216 * a + 65536 * b : Nat) = 65536 * (256 * a + b) by omega, o2]
  have o3 := orI (k := 8) (r := 65536 * a + 256 * b + c) (b := d) (by rw [h8]; omega) (by rw [h8]; omega)
  rw [h8] at o3
  rw [show (65536 * (256 * a + b) + 256 * c : Nat) = 256 * (65536 * a + 256 * b + c) by omega, o3]
  congr 1
  omega
theorem deN_of4 (a b c d : UInt8) : deN [a, b, c, d] = ((a.toNat * 256 + b.toNat) * 256 + c.toNat) * 256 + d.toNat := by
  have := a.toNat_lt; have := b.toNat_lt; have := c.toNat_lt; have := d.toNat_lt
  unfold deN
  simp only [List.foldl_cons, List.foldl_nil]
  omega

theorem take4 {d : List UInt8} (h : 4 ≤ d.length) : d.take 4 = [d[0], d[1], d[2], d[3]] := by
  match d, h with
  | [], h => simp at h
  | [_], h => simp at h
  | [_, _], h => simp at h
  | [_, _, _], h => simp at h
  | w :: x :: y :: z :: t, _ => rfl
theorem strB_app (a : List UInt8) (s : ByteArray) : strB a ++ s = strB (a ++ s.data.toList) := by
  apply ByteArray.ext
  rw [ByteArray.data_append]
  unfold strB
  simp
theorem strB_size (a : List UInt8) : (strB a).size = a.length := rfl
/-! ### What takes bytes apart -/

section
variable {H0 A B : Heap} {q : Nat} {l : List UInt8} {st : Option (List UInt8)}
end
end Go.Proofs.YtjjfngnokbboeaaDoor

/-
  The document's manifests: their bytes: the walk.
-/
namespace Go.Proofs.YtjjfngnokbboeaaDoor
open Go.MapKept

theorem strB_app2 (a b : List UInt8) : strB a ++ strB b = strB (a ++ b) := strB_app a (strB b)
/-- The first two bytes of a manifest, in memory. -/
def TwoB (A : Heap) (p : Addr) (o : Int) : Prop := Byts A (Sl.mk (some p) 2 2) [1, UInt8.ofNat o.toNat]
theorem stepNew {H1 A : Heap} {o : Int} (ho : 0 ≤ o ∧ o < 256) {K : Addr → Heap → Prop} (e : Ext H1 A) (hK : ∀ p A', Ext H1 A' → TwoB A' p o → K p A') : newC A #[(.int .u8 (1 : Int)), (.int .u8 o)] ty_uint8 K := by
  refine newC_rowT fun A' z r e' => hK _ A' (e.trans e') ?_
  refine ⟨rfl, fun i v hv => ⟨_, rfl, ?_⟩⟩
  have ho2 : ((UInt8.ofNat o.toNat).toNat : Int) = o := by rw [UInt8.toNat_ofNat']; omega
  rw [add_lit0]
  match i, hv with
  | 0, hv => exact r.cell hv
  | 1, hv =>
    have : v = .int .u8 ((UInt8.ofNat o.toNat).toNat : Int) := (Option.some.inj hv).symm
    rw [this, ho2]; exact r.cell rfl
  | i + 2, hv => simp [u8i] at hv
theorem stepStr {A : Heap} {p : Addr} {o : Int} {K : ByteArray → Prop} (h : TwoB A p o) (hK : K (strB [1, UInt8.ofNat o.toNat])) : b2s A (some p) 2 K := strB_eq (s := Sl.mk (some p) 2 2) h hK
end Go.Proofs.YtjjfngnokbboeaaDoor

/-
  The document's manifests: their bytes, whatever comes first of what stands in one line: the walk.
-/
namespace Go.Proofs.YtjjfngnokbboeaaDoor
open Go.MapKept

theorem strB_len (l : List UInt8) : (strB l).size = l.length := rfl

end Go.Proofs.YtjjfngnokbboeaaDoor
