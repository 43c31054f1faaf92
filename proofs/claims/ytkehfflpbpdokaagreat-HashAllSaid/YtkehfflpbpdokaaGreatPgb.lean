/-
 Pages: the walk of their sum, of what seals them, of what opens them.
-/
import Derived.Test.YtkehfflpbpdokaaGreatDkg
import Derived.Test.YtkehfflpbpdokaaGreatPga
import Derived.Laws.CopyRow
import Derived.Laws.IdiomCopy
namespace Go.Proofs.YtkehfflpbpdokaaGreat
theorem toNat32 (a : BitVec 32) : BitVec.ofInt 32 (a.toNat : Int) = a := by
 rw [BitVec.ofInt_natCast, BitVec.ofNat_toNat, BitVec.setWidth_eq]
theorem wrap32 {n : Nat} (h : n < 4294967296) : IntKind.u32.wrap (n : Int) = (n : Int) := by
 simp [IntKind.wrap, IntKind.bits, IntKind.signed]; omega
theorem wrap8 (n : Nat) : IntKind.u8.wrap (n : Int) = ((UInt8.ofNat n).toNat : Int) := by
 rw [UInt8.toNat_ofNat']
 simp [IntKind.wrap, IntKind.bits, IntKind.signed]
theorem ixor32 (a b : BitVec 32) : ixor .u32 (a.toNat : Int) (b.toNat : Int) = ((a ^^^ b).toNat : Int) := by
 unfold ixor
 show IntKind.u32.wrap ((BitVec.ofInt 32 (a.toNat : Int) ^^^ BitVec.ofInt 32 (b.toNat : Int)).toNat : Int) = _
 rw [toNat32, toNat32]
 exact wrap32 (a ^^^ b).isLt
theorem iand15 (a : BitVec 32) : iand .u32 (a.toNat : Int) 15 = ((a.toNat % 16 : Nat) : Int) := by
 unfold iand
 show IntKind.u32.wrap ((BitVec.ofInt 32 (a.toNat : Int) &&& 15#32).toNat : Int) = _
 rw [toNat32, low15]
 rw [BitVec.toNat_ofNat]
 have : a.toNat % 16 % 2 ^ 32 = a.toNat % 16 := by omega
 rw [this]
 exact wrap32 (by omega)
theorem ishr32 (a : BitVec 32) (k : Nat) (hk : k ≤ 32) : ishr .u32 (a.toNat : Int) (k : Int) = ((a.toNat / 2 ^ k : Nat) : Int) := by
 unfold ishr
 have : min (k : Int).toNat IntKind.u32.bits = k := by
  show min (k : Int).toNat 32 = k
  omega
 rw [this, Int.fdiv_eq_ediv_of_nonneg _ (Int.pow_nonneg (by decide)), Int.natCast_ediv, Int.natCast_pow]
 rfl
def gSteps : Nat := 0
def Gl [Tab] (H : Heap) : Prop := ∀ i, i < 16 → hCell H ⟨gSteps, i, none⟩ = some (.int .u32 ((stepsL.getD i 0#32).toNat : Int))
theorem Gl.lt [Tab] {H : Heap} (h : Gl H) : gSteps < H.size := hCell_lt (h 0 (by decide))
theorem Gl.keep [Tab] {H H' : Heap} (h : Gl H) (k : H'[gSteps]? = H[gSteps]?) : Gl H' := fun i hi => (hCell_congr k).trans (h i hi)
theorem Gl.mod [Tab] {F : Nat → Prop} {H H' : Heap} (h : Gl H) (hm : Mod F H H') (hn : ¬ F gSteps) : Gl H' := h.keep (hm.same _ h.lt hn)
theorem steps_ld [Tab] {H : Heap} (h : Gl H) {i : Nat} (hi : i < 16) {K : Int → Prop} (hK : K ((stepsL.getD i 0#32).toNat : Int)) {a : Addr} (ha : a = ⟨gSteps, i, none⟩) : ld (cInt .u32) H a K := by
 subst ha
 exact ⟨_, h i hi, hK⟩
def crcL [Tab] (l : List UInt8) : BitVec 32 := l.foldl crc8 (BitVec.allOnes 32)
theorem crcL_snoc [Tab] (l : List UInt8) (c : UInt8) : crcL (l ++ [c]) = crc8 (crcL l) c := by simp [crcL]
theorem toNat_ofNat32 (c : UInt8) : (BitVec.ofNat 32 c.toNat).toNat = c.toNat := by
 rw [BitVec.toNat_ofNat]
 have := c.toNat_lt
 omega
theorem u8_get {l : List UInt8} {i : Nat} (h : i < l.length) : (u8i l).getD i 0 = ((l[i]).toNat : Int) := by
 simp [u8i, List.getD, h]
theorem byte_of {l : List UInt8} {H : Heap} {s : Sl} (h : Byts H s l) {i : Nat} (hi : i < l.length) {z : Int} (hz : z = (i : Int)) {K : Addr → Int → Prop} (hK : ∀ ad, s.a = some ad → K ad ((l[i]).toNat : Int)) :
  optK s.a fun a => (0 ≤ z ∧ z < (s.n : Int)) ∧ ld (cInt .u8) H (a.add (z.toNat * 1)) fun x => K a x :=
 ints_get (l := u8i l) h hz (by simpa [u8i] using hi) (fun ad ha => by rw [u8_get hi]; exact hK ad ha)
theorem Sum_ok [Tab] {s : Sl} {l : List UInt8} {H : Heap} {K : Int → Heap → Prop} (hg : Gl H) (hb : Byts H s l) (hl : l.length < 4611686018427387904) (hK : K ((sumB l).toNat : Int) H) : Zdr.sp s H K := by
 refine Zdr.of ?_
 unfold Zdr.vc
 have hn := hb.n
 refine loop_upto l.length (fun k x H1 => H1 = H ∧ x = (((crcL (l.take k)).toNat : Int), (k : Int))) ⟨rfl, rfl⟩ ?_
 rintro k _ _ next hk ⟨rfl, rfl⟩ hnext
 refine br_mk (fun hc => ?_) (fun hc => ?_)
 ·have hlt : k < l.length := by rw [hn] at hc; simpa using hc
  refine byte_of hb hlt rfl fun ad ha => ?_
  have hc8 : (l[k]).toNat < 256 := (l[k]).toNat_lt
  have e0 : ixor .u32 ((crcL (l.take k)).toNat : Int) (IntKind.u32.wrap (((l[k]).toNat : Nat) : Int)) = ((crcL (l.take k) ^^^ BitVec.ofNat 32 (l[k]).toNat).toNat : Int) := by
   rw [wrap32 (by omega), ← toNat_ofNat32 l[k], ixor32, toNat_ofNat32]
  simp only [e0]
  generalize hr : crcL (l.take k) ^^^ BitVec.ofNat 32 (l[k]).toNat = r
  have half : ∀ (r : BitVec 32), ixor .u32 (ishr .u32 (r.toNat : Int) 4) ((stepsL.getD (r.toNat % 16) 0#32).toNat : Int) = ((bit4 r).toNat : Int) := by
   intro r
   have h1 : ishr .u32 (r.toNat : Int) 4 = ((r >>> 4).toNat : Int) := by
    rw [show (4 : Int) = ((4 : Nat) : Int) from rfl, ishr32 r 4 (by decide), BitVec.toNat_ushiftRight, Nat.shiftRight_eq_div_pow]
   rw [h1, ixor32, ← bit4_eq]
  rw [iand15]
  refine ⟨⟨by omega, by omega⟩, ?_⟩
  refine steps_ld hg (i := r.toNat % 16) (Nat.mod_lt _ (by decide)) ?_ (by rw [Int.toNat_natCast, Nat.mul_one, add_lit0]; rfl)
  rw [half, iand15]
  refine ⟨⟨by omega, by omega⟩, ?_⟩
  refine steps_ld hg (i := (bit4 r).toNat % 16) (Nat.mod_lt _ (by decide)) ?_ (by rw [Int.toNat_natCast, Nat.mul_one, add_lit0]; rfl)
  rw [half]
  refine hnext hlt _ _ ⟨rfl, ?_⟩
  have hs := succ64 k (by omega)
  rw [hs, List.take_succ_eq_append_getElem hlt, crcL_snoc]
  unfold crc8
  rw [hr]
 ·have hge : k = l.length := by rw [hn] at hc; simp at hc; omega
  rw [hge, List.take_of_length_le (Nat.le_refl _)]
  have e : ixor .u32 (4294967295 : Int) ((crcL l).toNat : Int) = ((sumB l).toNat : Int) := by
   rw [show (4294967295 : Int) = ((BitVec.allOnes 32).toNat : Int) from rfl, ixor32]
   congr 2
  rw [e]; exact hK
theorem doT_copy {P : Program} {dT sT ty elem t : TypeId} {H : Heap} {b o dl dc : Nat} {x : Sl} {cur : Array Value} {cs : List Value} {K : Int → Heap → Prop} (hu : P.underlying dT = some (.slice elem)) (hs : (P.info? elem).map (·.size) = some 1)
  (h : RowT H b t cur) (hx : Reads H x.a cs) (hn : x.n = cs.length) (hle : x.n ≤ dl) (hfit : o + cs.length ≤ cur.size) (h1 : ∀ v ∈ cs, v.oneCell' = true)
  (hK : ∀ H', RowT H' b t (cur.toList.take o ++ cs ++ cur.toList.drop (o + cs.length)).toArray → Mod (fun k => k = b) H H' → H'.size = H.size → K (cs.length : Int) H') :
  doT (cInt .i64) P (Builtin.copy_ #[dT, sT] ty #[.slice (some ⟨b, o, none⟩) dl dc, x.v]) H K := by
 intro w hw
 subst hw
 obtain ⟨xa, xn, xc⟩ := x
 simp only [Sl.v] at *
 by_cases hz : cs = []
 ·subst hz
  have hx0 : xn = 0 := hn
  subst hx0
  have hr := run_copy_none (P := P) w dT sT ty elem (some ⟨b, o, none⟩) xa dl dc 0 xc hu hs (by simp)
  refine ⟨_, w, hr, ⟨0, rfl, ?_⟩, .refl w⟩
  refine hK w.heap ?_ (.refl _ _) rfl
  have e : (cur.toList.take o ++ [] ++ cur.toList.drop (o + ([] : List Value).length)).toArray = cur := by simp
  rw [e]; exact h
 ·have hpos : 0 < cs.length := List.length_pos_iff.2 hz
  obtain ⟨ad, rfl, _⟩ := hx.at hpos
  have hsrc : ∀ j v, cs[j]? = some v → w.cell? (ad.add j) = some v := fun j v hv => by
   obtain ⟨ad', e, hc⟩ := hx j v hv
   cases e; exact hc
  have hr := run_copy_row (P := P) w dT sT ty elem b o dl dc ad xn xc cur t cs hu hs h (by rw [← hn]; exact (Nat.min_eq_left hle).symm) hsrc hfit h1
  refine ⟨_, _, hr, ⟨(cs.length : Int), rfl, hK _ (setRow_heap w b cur _ t _ h) ⟨by simp [World.setRow], fun k _ hk => setRow_other w b k _ hk⟩ (by simp [World.setRow])⟩, (.of_le rfl (Nat.le_refl _))⟩
abbrev RowB (H : Heap) (b : Nat) (t : TypeId) (l : List UInt8) : Prop := RowT H b t (pgV l).toArray
theorem RowB.st {H : Heap} {b : Nat} {t : TypeId} {l : List UInt8} {K : Heap → Prop} (h : RowB H b t l) {i : Nat} {x : UInt8} (hi : i < l.length) (hK : ∀ H', RowB H' b t (l.set i x) → Mod (fun k => k = b) H H' → H'.size = H.size → K H') :
  Go.Proofs.YtkehfflpbpdokaaGreat.st H (Addr.add ⟨b, 0, none⟩ i) (.int .u8 (x.toNat : Int)) K := by
 refine RowT.st h (i := i) (by simpa [pgV] using hi) rfl fun H' r m s => hK H' ?_ m s
 have e : ((pgV l).toArray.setIfInBounds i (.int .u8 (x.toNat : Int))) = (pgV (l.set i x)).toArray := by
  apply Array.toList_inj.1
  simp [pgV]
 rw [e] at r; exact r
theorem RowB.byts {H : Heap} {b : Nat} {t : TypeId} {l : List UInt8} (h : RowB H b t l) {o n c : Nat} (hn : o + n ≤ l.length) : Byts H (Sl.mk (some ⟨b, o, none⟩) n c) ((l.drop o).take n) := by
 refine ⟨by simp [u8i]; omega, fun i v hv => ⟨_, rfl, ?_⟩⟩
 rw [u8i_vals] at hv
 rw [add_lit]
 refine hCell_of h ?_
 have hi : i < n := by have := (List.getElem?_eq_some_iff.1 hv).1; simp [pgV] at this; omega
 simp only [pgV, List.getElem?_map, List.getElem?_take, if_pos hi, List.getElem?_drop] at hv
 simp only [pgV, List.getElem?_toArray, List.getElem?_map]
 exact hv
theorem set_take_drop {α : Type} {A B : List α} {k : Nat} {x : α} (hk : k < A.length) (hB : k < B.length) (hx : A[k]? = some x) : (A.take k ++ B.drop k).set k x = A.take (k + 1) ++ B.drop (k + 1) := by
 have hl : (A.take k).length = k := by simp; omega
 rw [List.set_append_right _ _ (by omega), hl, Nat.sub_self]
 have e : B.drop k = B[k] :: B.drop (k + 1) := List.drop_eq_getElem_cons hB
 rw [e, List.set_cons_zero, List.take_succ_eq_append_getElem hk]
 have : A[k] = x := by rw [List.getElem?_eq_getElem hk] at hx; exact Option.some.inj hx
 rw [this]; simp
theorem elByteI : Tryz.prog.underlying YaG = some (.slice YaL) := by kernel_rfl
theorem szByte : (Tryz.prog.info? YaL).map (·.size) = some 1 := by kernel_rfl
theorem zc_512 : zc Tryz.prog Yak = (pgV (List.replicate 512 0)).toArray := by kernel_rfl
theorem rep512 : List.replicate 512 (0 : UInt8) = 0 :: 0 :: 0 :: 0 :: 0 :: 0 :: 0 :: 0 :: List.replicate 504 0 := rfl
set_option maxRecDepth 20000 in
theorem Seal_ok [Tab] {kind : UInt8} {s : Sl} {l : List UInt8} {H : Heap} {K : Sl × Int → Heap → Prop} (hg : Gl H) (hb : Byts H s l) (hlen : l.length ≤ 504)
  (hK : ∀ s' H', SlE EB YaL H' s' (sealP kind l) → Ext H H' → (∀ b, ownB s' b → H.size ≤ b) → K (s', 0) H') : Zdk.sp (kind.toNat : Int) s H K := by
 refine Zdk.of ?_
 unfold Zdk.vc
 have hn := hb.n
 refine br_f (by simp; omega) ?_
 rw [zc_512]
 refine newC_rowT fun H1 s1 r1 e1 => ?_
 rw [rep512] at r1
 have b1 : Byts H1 s l := hb.keep fun ad _ hl => e1.same _ hl id
 refine ⟨⟨by decide, by decide⟩, ?_⟩
 have v4 : IntKind.u8.wrap (s.n : Int) = ((UInt8.ofNat l.length).toNat : Int) := by rw [hn, wrap8]
 have v5 : IntKind.u8.wrap (ishr .i64 (s.n : Int) 8) = ((UInt8.ofNat (l.length / 256)).toNat : Int) := by
  have : ishr .i64 (s.n : Int) 8 = ((l.length / 256 : Nat) : Int) := by
   unfold ishr
   rw [hn, show (min (8 : Int).toNat IntKind.i64.bits) = 8 from rfl, Int.fdiv_eq_ediv_of_nonneg _ (Int.pow_nonneg (by decide))]
   rfl
  rw [this, wrap8]
 rw [v4]
 refine RowB.st (i := 4) r1 (by simp) fun H2 r2 m2 z2 => ?_
 refine ⟨⟨by decide, by decide⟩, ?_⟩
 rw [v5]
 refine RowB.st (i := 5) r2 (by simp) fun H3 r3 m3 z3 => ?_
 refine ⟨⟨by decide, by decide⟩, ?_⟩
 refine RowB.st (i := 6) r3 (by simp) fun H4 r4 m4 z4 => ?_
 refine ⟨⟨by decide, by decide⟩, ?_⟩
 refine RowB.st (i := 7) (x := 157) r4 (by simp) fun H5 r5 m5 z5 => ?_
 refine ⟨⟨by decide, by decide⟩, ?_⟩
 have m15 : Mod (fun b => b = H.size) H1 H5 := ((m2.trans m3).trans m4).trans m5
 have m05 : Ext H H5 := ⟨by have := e1.size; have := m15.size; omega, fun b hb _ => (m15.same b (by omega) (by omega)).trans (e1.same b hb id)⟩
 have b5 : Byts H5 s l := hb.keep fun ad _ hl => m05.same _ hl id
 have a8 : slA (some ⟨H.size, 0, none⟩) 512 ((8 : Int).toNat) 1 = some ⟨H.size, 8, none⟩ := rfl
 rw [a8]
 refine doT_copy (t := Yak) elByteI szByte r5 b5.cells (by rw [hn]; simp [pgV]) (by rw [hn]; show _ ≤ 504; omega) (by simp [pgV]; omega) (by
  intro v hv
  obtain ⟨x, _, rfl⟩ := List.mem_map.1 hv; rfl) fun H6 r6 m6 z6 => ?_
 have L6 : (0 :: 0 :: 0 :: 0 :: bodyP kind l : List UInt8) = [0, 0, 0, 0] ++ bodyP kind l := rfl
 have r6' : RowB H6 H.size Yak ([0, 0, 0, 0] ++ bodyP kind l) := by
  have e : (((pgV (((((0 :: 0 :: 0 :: 0 :: 0 :: 0 :: 0 :: 0 :: List.replicate 504 0 : List UInt8).set 4 (UInt8.ofNat l.length)).set 5 (UInt8.ofNat (l.length / 256))).set 6 kind).set 7 157)).toArray.toList.take 8 ++ pgV l) ++ (pgV (((((0 :: 0 :: 0 :: 0 :: 0 :: 0 :: 0 :: 0 :: List.replicate 504 0 : List UInt8).set 4 (UInt8.ofNat l.length)).set 5 (UInt8.ofNat (l.length / 256))).set 6 kind).set 7 157)).toArray.toList.drop (8 + (pgV l).length)).toArray = (pgV ([0, 0, 0, 0] ++ bodyP kind l)).toArray := by
   congr 1
   simp only [List.set_cons_succ, List.set_cons_zero, pgV, List.map_cons, List.take_succ_cons, List.take_zero, List.map_append, bodyP, List.length_map, List.map_replicate]
   rw [show 8 + l.length = l.length + 8 from Nat.add_comm _ _]
   simp only [List.drop_succ_cons, List.drop_replicate]
   simp
  rw [e] at r6; exact r6
 have m16 : Mod (fun b => b = H.size) H1 H6 := m15.trans m6
 have m06 : Ext H H6 := ⟨by have := e1.size; have := m16.size; omega, fun b hb _ => (m16.same b (by omega) (by omega)).trans (e1.same b hb id)⟩
 refine ⟨⟨by decide, by decide⟩, ?_⟩
 have a4 : slA (some ⟨H.size, 0, none⟩) 512 ((4 : Int).toNat) 1 = some ⟨H.size, 4, none⟩ := rfl
 rw [a4]
 have hbl := bodyP_length (kind := kind) hlen
 have by6 := RowB.byts r6' (o := 4) (n := 508) (c := 508) (by simp [hbl])
 have ed : (([0, 0, 0, 0] ++ bodyP kind l : List UInt8).drop 4).take 508 = bodyP kind l := by
  show (bodyP kind l).take 508 = _
  rw [List.take_of_length_le (by omega)]
 rw [ed] at by6
 refine Sum_ok (hg.mod m06 id) by6 (by omega) ?_
 refine loop_upto 4 (fun k x H7 => x = (k : Int) ∧ RowB H7 H.size Yak ((le4 (sumB (bodyP kind l))).take k ++ ([0, 0, 0, 0] ++ bodyP kind l).drop k) ∧ Mod (fun b => b = H.size) H6 H7) ⟨rfl, r6', .refl _ _⟩ ?_
 rintro k _ H7 next hk ⟨rfl, r7, m7⟩ hnext
 refine br_mk (fun hc => ?_) (fun hc => ?_)
 ·have hk4 : k < 4 := by simp at hc; omega
  have hw : IntKind.i64.wrap ((8 : Int) * (k : Int)) = ((8 * k : Nat) : Int) := by rw [wrap64 (by omega) (by omega)]; omega
  rw [hw]
  refine ⟨by omega, ⟨by omega, by omega⟩, ?_⟩
  have hv : (le4 (sumB (bodyP kind l)))[k]? = some (UInt8.ofNat ((sumB (bodyP kind l)).toNat / 2 ^ (8 * k))) := by
   have : k = 0 ∨ k = 1 ∨ k = 2 ∨ k = 3 := by omega
   rcases this with rfl | rfl | rfl | rfl <;> simp [le4]
  rw [ishr32 _ (8 * k) (by omega), wrap8, Int.toNat_natCast, Nat.mul_one]
  refine RowB.st (i := k) r7 (by simp [le4, hbl]; omega) fun H8 r8 m8 z8 => ?_
  rw [set_take_drop (by simp [le4]; omega) (by simp [hbl]; omega) hv] at r8
  exact hnext hk4 _ _ ⟨succ64 k (by omega), r8, m7.trans m8⟩
 ·have hk4 : k = 4 := by simp at hc; omega
  subst hk4
  have r7' : RowB H7 H.size Yak (sealP kind l) := by
   have e : (le4 (sumB (bodyP kind l))).take 4 ++ ([0, 0, 0, 0] ++ bodyP kind l : List UInt8).drop 4 = sealP kind l := rfl
   rw [e] at r7; exact r7
  have hsl := sealP_length (kind := kind) hlen
  have by7 := RowB.byts r7' (o := 0) (n := 512) (c := 512) (by omega)
  rw [List.drop_zero, List.take_of_length_le (by omega)] at by7
  have a0 : slA (some ⟨H.size, 0, none⟩) 512 0 1 = some ⟨H.size, 0, none⟩ := rfl
  rw [a0]
  refine CloneByte_ok by7 (by omega) fun s' H' o' m' f' => ?_
  have m17 : Mod (fun b => b = H.size) H1 H7 := m16.trans m7
  have z1 := e1.size; have z7 := m17.size; have z' := m'.size
  refine hK s' H' o' ⟨by omega, fun b hb _ => (m'.same b (by omega) id).trans ((m17.same b (by omega) (by omega)).trans (e1.same b hb id))⟩ (fun b hb => ?_)
  have := f' b hb; omega
theorem Byts.drop {H : Heap} {s : Sl} {l : List UInt8} (h : Byts H s l) (hc : s.n ≤ s.c) (i : Nat) : Byts H (Sl.mk (slA s.a s.c i 1) (s.n - i) (s.c - i)) (l.drop i) := by
 have hn := h.n
 refine ⟨by simp [u8i, hn], ?_⟩
 have := RdE.drop (E := EB) (i := i) (c := s.c) (a := s.a) (l := l) (by unfold RdE; rw [EB_all]; exact h.cells) (by omega)
 unfold RdE at this
 rw [EB_all] at this
 rw [u8i_vals]
 exact this
theorem Byts.take {H : Heap} {s : Sl} {l : List UInt8} (h : Byts H s l) (i : Nat) (hi : i ≤ s.n) (c : Nat) : Byts H (Sl.mk s.a i c) (l.take i) := by
 have hn := h.n
 refine ⟨by simp [u8i]; omega, ?_⟩
 rw [u8i_vals]
 have : pgV (l.take i) = (pgV l).take i := by simp [pgV]
 rw [this]
 exact h.cells.take i
theorem IndexZ_ok {s : Sl} {l : List UInt8} {H : Heap} {K : Int → Heap → Prop} (hb : Byts H s l) (hl : l.length < 4611686018427387904) (hK : ∀ r : Int, (decide (r ≥ 0)) = l.any (fun c => c != 0) → K r H) : ZaU.sp s H K := by
 refine ZaU.of ?_
 unfold ZaU.vc
 have hn := hb.n
 refine loop_upto l.length (fun k x H1 => H1 = H ∧ x = (k : Int) ∧ (l.take k).any (fun c => c != 0) = false) ⟨rfl, rfl, by simp⟩ ?_
 rintro k _ _ next hk ⟨rfl, rfl, hno⟩ hnext
 refine br_mk (fun hc => ?_) (fun hc => ?_)
 ·have hlt : k < l.length := by rw [hn] at hc; simpa using hc
  refine byte_of hb hlt rfl fun ad ha => ?_
  refine ZcX.of ?_
  unfold ZcX.vc
  have ex : l = l.take k ++ l[k] :: l.drop (k + 1) := by
   rw [← List.drop_eq_getElem_cons hlt, List.take_append_drop]
  refine br_mk (fun hz => ?_) (fun hz => ?_)
  ·have hne : l[k] ≠ 0 := by
    intro e; rw [e] at hz; simp at hz
   refine hK _ ?_
   have e2 : l.any (fun c => c != 0) = true := List.any_eq_true.2 ⟨l[k], List.getElem_mem hlt, by simpa using hne⟩
   rw [e2]; simp
  ·have he : l[k] = 0 := by
    have : ((l[k]).toNat : Int) = 0 := by simpa using hz
    exact UInt8.toNat_inj.1 (by rw [UInt8.toNat_zero]; omega)
   refine hnext hlt _ _ ⟨rfl, succ64 k (by omega), ?_⟩
   rw [List.take_succ_eq_append_getElem hlt, List.any_append, hno, he]; rfl
 ·have hge : k = l.length := by rw [hn] at hc; simp at hc; omega
  rw [hge, List.take_of_length_le (Nat.le_refl _)] at hno
  refine hK _ ?_
  rw [hno]; rfl
theorem ContainsZ_ok {s : Sl} {l : List UInt8} {H : Heap} {K : Bool → Heap → Prop} (hb : Byts H s l) (hl : l.length < 4611686018427387904) (hK : K (l.any (fun c => c != 0)) H) : ZaO.sp s H K := by
 refine ZaO.of ?_
 unfold ZaO.vc
 refine IndexZ_ok hb hl fun r hr => ?_
 rw [hr]; exact hK
theorem size_or {a b : Nat} (ha : a < 256) (hb : b < 256) : ior .i64 (IntKind.i64.wrap (a : Int)) (ishl .i64 (IntKind.i64.wrap (b : Int)) 8) = ((a + 256 * b : Nat) : Int) := by
 rw [wrap64 (by omega) (by omega), wrap64 (x := (b : Int)) (by omega) (by omega)]
 have e1 : ishl .i64 (b : Int) 8 = ((b * 256 : Nat) : Int) := by
  unfold ishl
  rw [show (min (8 : Int).toNat IntKind.i64.bits) = 8 from rfl, wrap64 (by omega) (by omega)]
  omega
 rw [e1]
 unfold ior
 show IntKind.i64.wrap ((BitVec.ofInt 64 (a : Int) ||| BitVec.ofInt 64 ((b * 256 : Nat) : Int)).toNat : Int) = _
 rw [BitVec.ofInt_natCast, BitVec.ofInt_natCast, BitVec.toNat_or, BitVec.toNat_ofNat, BitVec.toNat_ofNat, Nat.mod_eq_of_lt (by omega), Nat.mod_eq_of_lt (by omega)]
 have e2 : a ||| b * 256 = a + 256 * b := by
  have := Nat.shiftLeft_add_eq_or_of_lt (i := 8) (b := a) (by omega) b
  rw [Nat.shiftLeft_eq] at this
  rw [Nat.or_comm, show b * 256 = b * 2 ^ 8 from rfl, ← this]; omega
 rw [e2]
 exact wrap64 (by omega) (by omega)
theorem openP_none [Tab] {l : List UInt8} (h : l.length = 512) (hn : ¬ (l.take 4 = le4 (sumB (l.drop 4)) ∧ sizeP l ≤ 504 ∧ l.getD 7 0 = 157 ∧ ∀ c ∈ l.drop (8 + sizeP l), c = 0)) : openP l = none := by
 unfold openP
 rw [if_neg (fun q => hn ((openP_iff h).1 q))]
theorem openP_some [Tab] {l : List UInt8} (h : l.length = 512) (hn : l.take 4 = le4 (sumB (l.drop 4)) ∧ sizeP l ≤ 504 ∧ l.getD 7 0 = 157 ∧ ∀ c ∈ l.drop (8 + sizeP l), c = 0) : openP l = some (l.getD 6 0, (l.drop 8).take (sizeP l)) := by
 unfold openP
 rw [if_pos ((openP_iff h).2 hn)]
set_option maxRecDepth 20000 in
theorem Open_ok [Tab] {s : Sl} {l : List UInt8} {H : Heap} {K : (Int × Sl × Int) → Heap → Prop} (hg : Gl H) (hb : Byts H s l) (hl : l.length < 4611686018427387904) (hcap : s.n ≤ s.c)
  (hA : l.length ≠ 512 → K (0, Sl.mk none 0 0, 2) H) (hT : l.length = 512 → openP l = none → K (0, Sl.mk none 0 0, 20) H)
  (hK : ∀ k b s' H', l.length = 512 → openP l = some (k, b) → b.length ≤ 504 → SlE EB YaL H' s' b → Ext H H' → (∀ b, ownB s' b → H.size ≤ b) → K ((k.toNat : Int), s', 0) H') : Zdh.sp s H K := by
 refine Zdh.of ?_
 unfold Zdh.vc
 have hn := hb.n
 refine br_mk (fun hc => hA (by rw [hn] at hc; simp at hc; omega)) (fun hc => ?_)
 have h512 : l.length = 512 := by rw [hn] at hc; simp at hc; omega
 refine ⟨⟨by decide, by omega⟩, ?_⟩
 have d4 := hb.drop hcap 4
 refine Sum_ok hg d4 (by simp; omega) ?_
 refine loop_upto 4 (fun k x H1 => H = H1 ∧ x = (k : Int) ∧ l.take k = (le4 (sumB (l.drop 4))).take k) ⟨rfl, rfl, rfl⟩ ?_
 rintro k _ _ next hk ⟨rfl, rfl, heq⟩ hnext
 refine br_mk (fun hc => ?_) (fun hc => ?_)
 ·have hk4 : k < 4 := by simp at hc; omega
  have hlt : k < l.length := by omega
  refine byte_of hb hlt rfl fun ad ha => ?_
  have hw : IntKind.i64.wrap ((8 : Int) * (k : Int)) = ((8 * k : Nat) : Int) := by rw [wrap64 (by omega) (by omega)]; omega
  rw [hw]
  refine ⟨by omega, ?_⟩
  rw [ishr32 _ (8 * k) (by omega), wrap8]
  have hv : (le4 (sumB (l.drop 4)))[k]? = some (UInt8.ofNat ((sumB (l.drop 4)).toNat / 2 ^ (8 * k))) := by
   have : k = 0 ∨ k = 1 ∨ k = 2 ∨ k = 3 := by omega
   rcases this with rfl | rfl | rfl | rfl <;> simp [le4]
  refine br_mk (fun hz => ?_) (fun hz => ?_)
  ·refine hT h512 (openP_none h512 fun q => ?_)
   have e1 : (l.take 4)[k]? = some l[k] := by rw [List.getElem?_take, if_pos hk4, List.getElem?_eq_getElem hlt]
   rw [q.1, hv] at e1
   rw [Option.some.inj e1] at hz
   simp at hz
  ·have e1 : l[k] = UInt8.ofNat ((sumB (l.drop 4)).toNat / 2 ^ (8 * k)) := by
    refine UInt8.toNat_inj.1 ?_
    have : ((l[k]).toNat : Int) = ((UInt8.ofNat ((sumB (l.drop 4)).toNat / 2 ^ (8 * k))).toNat : Int) := by simpa using hz
    omega
   refine hnext hk4 _ _ ⟨rfl, succ64 k (by omega), ?_⟩
   have hk4' : k < (le4 (sumB (l.drop 4))).length := by simp [le4]; omega
   rw [List.take_succ_eq_append_getElem hlt, List.take_succ_eq_append_getElem hk4', heq]
   rw [List.getElem?_eq_getElem hk4'] at hv
   rw [Option.some.inj hv, e1]
 ·have hk4 : k = 4 := by simp at hc; omega
  subst hk4
  have hsum : l.take 4 = le4 (sumB (l.drop 4)) := by
   rw [heq]; exact List.take_of_length_le (by simp [le4])
  refine byte_of (i := 4) (z := 4) hb (by omega) rfl fun _ _ => ?_
  refine byte_of (i := 5) (z := 5) hb (by omega) rfl fun _ _ => ?_
  have hsz : ior .i64 (IntKind.i64.wrap ((l[4]).toNat : Int)) (ishl .i64 (IntKind.i64.wrap ((l[5]).toNat : Int)) 8) = (sizeP l : Int) := by
   rw [size_or (l[4]).toNat_lt (l[5]).toNat_lt]
   unfold sizeP
   simp [List.getD, List.getElem?_eq_getElem (show 4 < l.length by omega), List.getElem?_eq_getElem (show 5 < l.length by omega)]
  rw [hsz]
  refine br_mk (fun hz => hT h512 (openP_none h512 fun q => ?_)) (fun hz => ?_)
  ·have := q.2.1; simp at hz; omega
  have hle : sizeP l ≤ 504 := by simp at hz; omega
  refine byte_of (i := 7) (z := 7) hb (by omega) rfl fun _ _ => ?_
  have h7 : l.getD 7 0 = l[7] := by simp [List.getD, List.getElem?_eq_getElem (show 7 < l.length by omega)]
  refine br_mk (fun hz => hT h512 (openP_none h512 fun q => ?_)) (fun hz => ?_)
  ·have := q.2.2.1
   rw [h7] at this
   rw [this] at hz; simp at hz
  have h7' : l.getD 7 0 = 157 := by
   rw [h7]
   refine UInt8.toNat_inj.1 ?_
   have : ((l[7]).toNat : Int) = 157 := by simpa using hz
   rw [show (157 : UInt8).toNat = 157 from rfl]; omega
  have hw8 : IntKind.i64.wrap ((8 : Int) + (sizeP l : Int)) = ((8 + sizeP l : Nat) : Int) := by rw [wrap64 (by omega) (by omega)]; omega
  rw [hw8, Int.toNat_natCast]
  refine ⟨⟨by omega, by omega⟩, ?_⟩
  refine ContainsZ_ok (hb.drop hcap (8 + sizeP l)) (by simp; omega) ?_
  refine br_mk (fun hz => hT h512 (openP_none h512 fun q => ?_)) (fun hz => ?_)
  ·obtain ⟨c, hc1, hc2⟩ := List.any_eq_true.1 hz
   rw [q.2.2.2 c hc1] at hc2; simp at hc2
  have hz' : ∀ c ∈ l.drop (8 + sizeP l), c = 0 := by
   intro c hc1
   have := List.any_eq_false.1 hz c hc1
   simpa using this
  have hop := openP_some h512 ⟨hsum, hle, h7', hz'⟩
  refine ⟨fun H' => Ext H H', .refl _ _, ?_⟩
  have hlt6 : 6 < l.length := by omega
  have hb' : ∀ H', Ext H H' → Byts H' s l := fun H' e => hb.keep fun ad _ hl => e.same _ hl id
  obtain ⟨ad, ha, _⟩ := hb.addr (by omega)
  refine optK_mk ad ha ⟨⟨by decide, by omega⟩, ((l[6]).toNat : Int), fun H' e => ?_, ?_⟩
  ·have hc6 := (hb' H' e).at (i := 6) (by simp [u8i]; omega)
   obtain ⟨ad', ha', hc6⟩ := hc6
   rw [ha] at ha'; cases ha'
   rw [show (6 : Int).toNat * 1 = 6 from rfl, hc6]
   simp [u8i]
  ·refine ⟨⟨by omega, by omega⟩, ⟨by decide, by omega⟩, ?_⟩
   have hd8 := (hb.drop hcap 8).take (sizeP l) (by show _ ≤ s.n - 8; omega) (s.c - 8)
   have e8 : (8 + sizeP l) - (8 : Int).toNat = sizeP l := by show 8 + sizeP l - 8 = _; omega
   rw [e8]
   refine CloneByte_ok hd8 (by simp; omega) fun s' H' o' m' f' => ⟨m', ?_⟩
   have h6 : l.getD 6 0 = l[6] := by simp [List.getD, List.getElem?_eq_getElem hlt6]
   rw [h6] at hop
   exact hK l[6] _ s' H' h512 hop (by simp; omega) o' m' f'
end Go.Proofs.YtkehfflpbpdokaaGreat
