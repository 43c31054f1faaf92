/-
  The document's pages: the walk of their sum, of what seals them, of what opens them.
-/
import Derived.Test.YtbhddkmfhampbaaGreatDoorVc
import Derived.Test.YtbhddkmfhampbaaGreatDoorFxk
import Derived.Test.YtbhddkmfhampbaaGreatDoorPgb
import Derived.Test.YtbhddkmfhampbaaGreatDoorJ32
import Derived.Test.YtbhddkmfhampbaaGreatDoorJ35
import Derived.Test.YtbhddkmfhampbaaGreatDoorJ44
import Derived.Test.YtbhddkmfhampbaaGreatDoorDre
import Derived.Test.YtbhddkmfhampbaaGreatDoorFxs
namespace Go.Proofs.YtbhddkmfhampbaaGreatDoor

theorem iand1 (a : BitVec 32) : iand .u32 (a.toNat : Int) 1 = ((a.toNat % 2 : Nat) : Int) := by
  unfold iand
  show IntKind.u32.wrap ((BitVec.ofInt 32 (a.toNat : Int) &&& 1#32).toNat : Int) = _
  have h1 : (1#32).toNat = 2 ^ 1 - 1 := by decide
  rw [toNat32, BitVec.toNat_and, h1, Nat.and_two_pow_sub_one_eq_mod]
  exact wrap32 (by omega)
theorem lsb_mod (a : BitVec 32) : a.getLsbD 0 = decide (a.toNat % 2 = 1) := by
  rw [BitVec.getLsbD]
  simp [Nat.testBit_zero]
/-- Bits, one by one. -/
def bits (r : BitVec 32) : Nat → BitVec 32
  | 0 => r
  | n + 1 => bit1 (bits r n)
theorem bits8 (r : BitVec 32) : bits r 8 = bit4 (bit4 r) := rfl
theorem shr1 (a : BitVec 32) : ishr .u32 (a.toNat : Int) 1 = ((a >>> 1).toNat : Int) := by
  rw [show (1 : Int) = ((1 : Nat) : Int) from rfl, ishr32 a 1 (by decide), BitVec.toNat_ushiftRight, Nat.shiftRight_eq_div_pow]

theorem RSum_ok {s : Sl} {l : List UInt8} {H : Heap} {K : Int → Heap → Prop} (hb : Byts H s l) (hl : l.length < 4611686018427387904) (hK : K ((sumB l).toNat : Int) H) : fathomref02_Sum.sp s H K := by
  refine fathomref02_Sum.of ?_
  unfold fathomref02_Sum.vc
  have hn := hb.n
  refine loop_upto l.length (fun k x H1 => H1 = H ∧ x = (((crcL (l.take k)).toNat : Int), (k : Int))) ⟨rfl, rfl⟩ ?_
  rintro k _ H1 next hk ⟨rfl, rfl⟩ hnext
  refine br_mk (fun hc => ?_) (fun hc => ?_)
  · have hlt : k < l.length := by rw [hn] at hc; simpa using hc
    refine byte_of hb hlt rfl fun ad ha => ?_
    have hc8 : (l[k]).toNat < 256 := (l[k]).toNat_lt
    have e0 : ixor .u32 ((crcL (l.take k)).toNat : Int) (IntKind.u32.wrap (((l[k]).toNat : Nat) : Int)) = ((crcL (l.take k) ^^^ BitVec.ofNat 32 (l[k]).toNat).toNat : Int) := by
      rw [wrap32 (by omega), ← toNat_ofNat32 l[k], ixor32, toNat_ofNat32]
    simp only [e0]
    generalize hr : crcL (l.take k) ^^^ BitVec.ofNat 32 (l[k]).toNat = r
    refine loop_upto 8 (fun j x H2 => H2 = H1 ∧ x = (((bits r j).toNat : Int), (j : Int))) ⟨rfl, rfl⟩ ?_
    rintro j _ _ next2 hj ⟨rfl, rfl⟩ hnext2
    refine br_mk (fun hc2 => ?_) (fun hc2 => ?_)
    · have hj8 : j < 8 := by simp at hc2; omega
      rw [iand1, shr1]
      have hb1 : bits r (j + 1) = bit1 (bits r j) := rfl
      generalize hq : bits r j = q at *
      refine br_mk (fun h1 => ?_) (fun h1 => ?_)
      · have hm : q.toNat % 2 = 1 := by simp at h1; omega
        refine hnext2 hj8 _ _ ⟨rfl, ?_⟩
        rw [succ64 j (by omega), show (3988292384 : Int) = (poly.toNat : Int) from rfl, ixor32, hb1]
        unfold bit1
        rw [lsb_mod, hm]; rfl
      · have hm : q.toNat % 2 = 0 := by simp at h1; omega
        refine hnext2 hj8 _ _ ⟨rfl, ?_⟩
        rw [succ64 j (by omega), hb1]
        unfold bit1
        rw [lsb_mod, hm]; simp
    · have hj8 : j = 8 := by simp at hc2; omega
      subst hj8
      refine hnext hlt _ _ ⟨rfl, ?_⟩
      rw [succ64 k (by omega), List.take_succ_eq_append_getElem hlt, crcL_snoc, bits8]
      unfold crc8
      rw [hr]
  · have hge : k = l.length := by rw [hn] at hc; simp at hc; omega
    rw [hge, List.take_of_length_le (Nat.le_refl _)]
    have e : ixor .u32 ((crcL l).toNat : Int) (4294967295 : Int) = ((sumB l).toNat : Int) := by
      rw [show (4294967295 : Int) = ((BitVec.allOnes 32).toNat : Int) from rfl, ixor32, BitVec.xor_comm]
      congr 2
    rw [e]; exact hK

theorem zc_byte : ∀ inf z, Tryz.prog.info? ty_uint8 = some inf → inf.zero = some z → z.cells.toList = EB.enc 0 := by
  intro inf z h1 h2
  have h : ((Tryz.prog.info? ty_uint8).bind fun i => i.zero) = some (.int .u8 0) := by kernel_rfl
  rw [h1, Option.bind_some, h2] at h
  cases h; rfl
theorem under_int : Tryz.prog.underlying ty_int = some (.int .i64) := by kernel_rfl

theorem RSeal_ok {kind : UInt8} {s : Sl} {l : List UInt8} {H : Heap} {K : Sl × Int → Heap → Prop} (hb : Byts H s l) (hlen : l.length ≤ 504)
    (hK : ∀ s' H', SlE EB ty_uint8 H' s' (sealP kind l) → Ext H H' → (∀ b, ownB s' b → H.size ≤ b) → K (s', 0) H') : fathomref02_Seal.sp (kind.toNat : Int) s H K := by
  refine fathomref02_Seal.of ?_
  unfold fathomref02_Seal.vc
  have hn := hb.n
  refine br_f (by simp; omega) ?_
  have v4 : IntKind.u8.wrap (Int.tmod (s.n : Int) 256) = ((UInt8.ofNat l.length).toNat : Int) := by
    have : Int.tmod (s.n : Int) 256 = ((l.length % 256 : Nat) : Int) := by rw [hn]; rfl
    rw [this, wrap8]
    congr 1
    rw [UInt8.toNat_ofNat', UInt8.toNat_ofNat']; omega
  have v5 : IntKind.u8.wrap (IntKind.i64.wrap (Int.tdiv (s.n : Int) 256)) = ((UInt8.ofNat (l.length / 256)).toNat : Int) := by
    have : Int.tdiv (s.n : Int) 256 = ((l.length / 256 : Nat) : Int) := by rw [hn]; rfl
    rw [this, wrap64 (by omega) (by omega), wrap8]
  rw [v4, v5]
  refine newC_rowT fun H1 s1 r1 e1 => ?_
  have b1 : Byts H1 s l := hb.keep fun ad _ hl => e1.same _ hl id
  have o1 : SlE EB ty_uint8 H1 (Sl.mk (some ⟨H.size, 0, none⟩) 4 4) [UInt8.ofNat l.length, UInt8.ofNat (l.length / 256), kind, 157] :=
    ⟨rfl, .inr ⟨H.size, 4, _, rfl, Nat.zero_le _, r1, Nat.le_refl _, by unfold maxLen; omega, rfl, rfl⟩⟩
  refine SlE.append (E := EB) elByte (s := Sl.mk (some ⟨H.size, 0, none⟩) 4 4) (x := s) o1 (by rw [RdE, EB_all]; exact b1.cells) hn (by simp; omega) (by simp; omega) fun rest H2 o2 g2 _ => ?_
  have hn2 := o2.n (by decide)
  have hn2' : rest.n = 4 + l.length := by simp at hn2; omega
  have hw : IntKind.i64.wrap ((508 : Int) - (rest.n : Int)) = ((504 - l.length : Nat) : Int) := by rw [wrap64 (by omega) (by omega)]; omega
  rw [hw]
  refine SlE.appendZ (E := EB) (x0 := 0) elByte under_int zc_byte o2 (by decide) (by simp; omega) fun rest2 H3 o3 g3 => ?_
  have hbody : [UInt8.ofNat l.length, UInt8.ofNat (l.length / 256), kind, 157] ++ l ++ List.replicate (504 - l.length) 0 = bodyP kind l := rfl
  rw [hbody] at o3
  have hbl := bodyP_length (kind := kind) hlen
  have z1 := e1.size; have z2 := g2.1.size; have z3 := g3.1.size
  have f2 : ∀ b, ownB rest b → H.size ≤ b := fun b hb => by
    rcases g2.2 b hb with ⟨ad, q1, q2⟩ | q
    · cases q1; have : H.size = b := q2; omega
    · omega
  have f3 : ∀ b, ownB rest2 b → H.size ≤ b := fun b hb => by
    rcases g3.2 b hb with q | q
    · exact f2 b q
    · omega
  have m03 : Ext H H3 := ⟨by omega, fun b hb _ => (g3.1.same b (by omega) fun hh => by have := f2 b hh; omega).trans ((g2.1.same b (by omega) (by rintro ⟨ad, q1, q2⟩; cases q1; have : H.size = b := q2; omega)).trans (e1.same b hb id))⟩
  refine RSum_ok (SlB_byts o3) (by omega) ?_
  refine loop_upto 4 (fun k x H5 => x.2 = (k : Int) ∧ SlE EB ty_uint8 H5 x.1 ((le4 (sumB (bodyP kind l))).take k) ∧ Mod (fun _ => False) H3 H5 ∧ ∀ b, ownB x.1 b → H3.size ≤ b) ⟨rfl, SlE.nil _ _ _, .refl _ _, by rintro b ⟨ad, q, _⟩; cases q⟩ ?_
  rintro k ⟨out, i⟩ H5 next hk ⟨hi, o5, m5, f5⟩ hnext
  simp only at hi
  subst hi
  simp only at o5 f5 hnext ⊢
  have z5 := m5.size
  have h4 : (le4 (sumB (bodyP kind l))).length = 4 := rfl
  refine br_mk (fun hc => ?_) (fun hc => ?_)
  · have hk4 : k < 4 := by simp at hc; omega
    have hw8 : IntKind.i64.wrap ((8 : Int) * (k : Int)) = ((8 * k : Nat) : Int) := by rw [wrap64 (by omega) (by omega)]; omega
    rw [hw8]
    refine ⟨by omega, ?_⟩
    have hv : (le4 (sumB (bodyP kind l)))[k]? = some (UInt8.ofNat ((sumB (bodyP kind l)).toNat / 2 ^ (8 * k))) := by
      have : k = 0 ∨ k = 1 ∨ k = 2 ∨ k = 3 := by omega
      rcases this with rfl | rfl | rfl | rfl <;> simp [le4]
    rw [ishr32 _ (8 * k) (by omega), wrap8]
    refine SlE.push (E := EB) elByte (x := UInt8.ofNat ((sumB (bodyP kind l)).toNat / 2 ^ (8 * k))) o5 rfl (by simp; omega) (by simp; omega) fun out2 H7 o7 g7 _ => ?_
    have z7 := g7.1.size
    refine hnext hk4 _ _ ⟨succ64 k (by omega), ?_, ⟨by omega, fun b hb _ => (g7.1.same b (by omega) fun hh => by have := f5 b hh; omega).trans (m5.same b hb id)⟩, fun b hb => ?_⟩
    · have e : (le4 (sumB (bodyP kind l))).take (k + 1) = (le4 (sumB (bodyP kind l))).take k ++ [UInt8.ofNat ((sumB (bodyP kind l)).toNat / 2 ^ (8 * k))] := by
        rw [List.take_add_one, hv]; rfl
      rw [e]; exact o7
    · rcases g7.2 b hb with q | q
      · exact f5 b q
      · omega
  · have hk4 : k = 4 := by simp at hc; omega
    subst hk4
    have o35 : SlE EB ty_uint8 H5 rest2 (bodyP kind l) := o3.ext m5
    refine SlE.append (E := EB) elByte (s := out) (x := rest2) o5 o35.rd (o35.n (by decide)) (by simp [hbl]; omega) (by simp [hbl]; omega) fun out3 H8 o8 g8 _ => ?_
    have z8 := g8.1.size
    refine hK out3 H8 o8 ⟨by omega, fun b hb _ => (g8.1.same b (by omega) fun hh => by have := f5 b hh; omega).trans ((m5.same b (by omega) id).trans (m03.same b hb id))⟩ fun b hb => ?_
    rcases g8.2 b hb with q | q
    · have := f5 b q; omega
    · omega

theorem ROpen_ok {s : Sl} {l : List UInt8} {H : Heap} {K : (Int × Sl × Int) → Heap → Prop} (hb : Byts H s l) (hcap : s.n ≤ s.c) (h512 : l.length = 512)
    (hN : openP l = none → ∀ H', Ext H H' → K (0, Sl.mk none 0 0, 20) H')
    (hK : ∀ k b s' H', openP l = some (k, b) → b.length ≤ 504 → SlE EB ty_uint8 H' s' b → Ext H H' → (∀ b, ownB s' b → H.size ≤ b) → K ((k.toNat : Int), s', 0) H') : fathomref02_Open.sp s H K := by
  refine fathomref02_Open.of ?_
  unfold fathomref02_Open.vc
  have hn := hb.n
  refine br_f (by simp; omega) ?_
  refine byte_of hb (i := 4) (by omega) rfl fun ad4 ha4 => ?_
  refine byte_of hb (i := 5) (by omega) rfl fun ad5 ha5 => ?_
  have c4 : (l[4]).toNat < 256 := (l[4]).toNat_lt
  have c5 : (l[5]).toNat < 256 := (l[5]).toNat_lt
  have hs : sizeP l = (l[4]).toNat + 256 * (l[5]).toNat := by
    unfold sizeP; simp [List.getD, h512]
  have hw : IntKind.i64.wrap ((IntKind.i64.wrap ((l[4]).toNat : Int)) + (IntKind.i64.wrap ((256 : Int) * (IntKind.i64.wrap ((l[5]).toNat : Int))))) = (sizeP l : Int) := by
    rw [wrap64 (x := ((l[4]).toNat : Int)) (by omega) (by omega), wrap64 (x := ((l[5]).toNat : Int)) (by omega) (by omega), wrap64 (x := (256 : Int) * ((l[5]).toNat : Int)) (by omega) (by omega), wrap64 (by omega) (by omega)]
    omega
  rw [hw]
  refine br_mk (fun hc => ?_) (fun hc => ?_)
  · have hgt : 504 < sizeP l := by simp at hc; omega
    exact hN (by unfold openP; rw [if_neg (by omega)]) H (.refl _ _)
  have hle : sizeP l ≤ 504 := by simp at hc; omega
  have hw8 : IntKind.i64.wrap ((8 : Int) + (sizeP l : Int)) = ((8 + sizeP l : Nat) : Int) := by rw [wrap64 (by omega) (by omega)]; omega
  rw [hw8]
  refine ⟨⟨by omega, by omega⟩, ⟨by omega, by omega⟩, ?_⟩
  have hd := (hb.drop hcap 8).take (sizeP l) (by simp only; omega) (s.c - 8)
  have ex : (((8 + sizeP l : Nat) : Int).toNat - (8 : Int).toNat) = sizeP l := by omega
  rw [ex]
  have hdl : ((l.drop 8).take (sizeP l)).length = sizeP l := by simp; omega
  refine SlE.append (E := EB) elByte (s := Sl.mk none 0 0) (x := Sl.mk (slA s.a s.c 8 1) (sizeP l) (s.c - 8)) (l := []) (SlE.nil _ _ _) (by rw [RdE, EB_all]; exact hd.cells) (by rw [hdl]) (by simp; omega) (by simp; omega) fun s1 H1 o1 g1 _ => ?_
  simp only [List.nil_append] at o1
  have e1 : Ext H H1 := g1.1.mono fun b _ hb => by obtain ⟨ad, q, _⟩ := hb; cases q
  have f1 : ∀ b, ownB s1 b → H.size ≤ b := fun b hb => (g1.2 b hb).resolve_left (by rintro ⟨ad, q, _⟩; cases q)
  have b1 : Byts H1 s l := hb.keep fun ad _ hl => e1.same _ hl id
  refine byte_of b1 (i := 6) (by omega) rfl fun ad6 ha6 => ?_
  refine RSeal_ok (SlB_byts o1) (by rw [hdl]; exact hle) fun w H2 o2 e2 f2 => ?_
  have b2 : Byts H2 s l := b1.keep fun ad _ hl => e2.same _ hl id
  have z1 := e1.size; have z2 := e2.size
  have h6 : l.getD 6 0 = l[6] := by simp [List.getD, h512]
  refine strB_eq (SlB_byts o2) ?_
  refine strB_eq b2 ?_
  have hcmp : ((strB (sealP l[6] ((l.drop 8).take (sizeP l)))).toList == (strB l).toList) = decide (sealP l[6] ((l.drop 8).take (sizeP l)) = l) := by
    rw [strB_list, strB_list, Bool.eq_iff_iff, beq_iff_eq, decide_eq_true_iff]
  rw [hcmp]
  refine br_mk (fun hq => ?_) (fun hq => ?_)
  · have hq' : ¬ sealP l[6] ((l.drop 8).take (sizeP l)) = l := by simpa using hq
    exact hN (by unfold openP; rw [h6, if_neg (by rintro ⟨_, q⟩; exact hq' q)]) H2 (e1.trans e2)
  · have hq' : sealP l[6] ((l.drop 8).take (sizeP l)) = l := by simpa using hq
    refine byte_of b2 (i := 6) (by omega) rfl fun ad6 ha6 => ?_
    exact hK l[6] _ s1 H2 (by unfold openP; rw [h6, if_pos ⟨hle, hq'⟩]) (by rw [hdl]; exact hle) (o1.ext e2) (e1.trans e2) f1

end Go.Proofs.YtbhddkmfhampbaaGreatDoor

/-
  The document's pool: frames looked for; an error met; a frame out; a frame written; room; a handle more; a frame more.
-/
namespace Go.Proofs.YtbhddkmfhampbaaGreatDoor

def idxO (i : Option Nat) : Int := match i with | some i => (i : Int) | none => -1
theorem idxO_neg (i : Option Nat) : decide (idxO i < 0) = i.isNone := by
  cases i with
  | none => rfl
  | some i => exact decide_eq_false (by simp only [idxO]; omega)
theorem idxO_pos (i : Option Nat) : decide (idxO i ≥ 0) = i.isSome := by
  cases i with
  | none => rfl
  | some i => exact decide_eq_true (by simp only [idxO]; omega)
theorem nil_own {b : Nat} : ¬ ownB (Sl.mk none 0 0) b := by rintro ⟨ad, q, _⟩; cases q

theorem pins_ld {H : Heap} {sl : Sl} {l : List Int} (h : SlE EI ty_int H sl l) {j : Nat} (hj : j < l.length) {K : Int → Prop} (hK : K l[j]) : optK sl.a fun a => (0 ≤ (j : Int) ∧ (j : Int) < (sl.n : Int)) ∧ ld (cInt .i64) H (a.add ((j : Int).toNat * 1)) K := by
  obtain ⟨ad, ha⟩ := RdE.addr h.rd (by decide) (by omega)
  have hn := h.n (by decide)
  rw [ha]
  refine ⟨⟨by omega, by omega⟩, ?_⟩
  simp only [Int.toNat_natCast]
  exact SlE.one (c := cInt .i64) h (List.getElem?_eq_getElem hj) rfl rfl ha hK

section
variable {ll : Sl} {zs : List RZ} {D : Nat → Prop} {H : Heap} {p dp : Nat} {s : Pl}

theorem RPfind_ok {n : ByteArray} {g : Int} {K : Int → Heap → Prop} (h : RPoolG ll zs H p dp s) (hK : K (idxO (s.find n g)) H) : fathomref03_Pool_find.sp (at0 p) n g H K := by
  refine fathomref03_Pool_find.of ?_
  unfold fathomref03_Pool_find.vc
  simp only [optK_eq]
  have hn := h.n
  have hlen := h.wf.len; have hmost := h.wf.most
  refine loop_upto s.fs.length (fun k x H1 => x = (k : Int) ∧ H1 = H ∧ ∀ j (hj : j < s.fs.length), j < k → (s.fs[j].name.toList == n.toList && decide ((s.fs[j].page : Int) = g)) = false) ⟨rfl, rfl, fun j _ h => by omega⟩ ?_
  rintro k _ H1 next hk ⟨rfl, rfl, hno⟩ hnext
  refine h.head.ld (c := cSl) (i := 2) (x := ll) rfl ?_
  refine br_mk (fun hc => ?_) (fun hc => ?_)
  · have hlt : k < s.fs.length := by rw [hn] at hc; simpa using hc
    obtain ⟨gg, hz⟩ := h.at (List.getElem?_eq_getElem hlt)
    have miss : (s.fs[k].name.toList == n.toList && decide ((s.fs[k].page : Int) = g)) = false → next (IntKind.i64.wrap ((k : Int) + (1 : Int))) H1 := fun hq => by
      refine hnext hlt _ _ ⟨succ64 k (by omega), rfl, fun j hj hjk => ?_⟩
      rcases Nat.lt_or_ge j k with q | q
      · exact hno j hj q
      · have : j = k := by omega
        subst this; exact hq
    refine h.head.ld (c := cSl) (i := 2) (x := ll) rfl ?_
    refine h.frames.ld hz (j := 0) (c := cStr) (y := s.fs[k].name) rfl ?_
    refine br_mk (fun hq => ?_) (fun hq => miss (by rw [hq]; rfl))
    refine h.head.ld (c := cSl) (i := 2) (x := ll) rfl ?_
    refine h.frames.ld hz (j := 1) (c := cInt .i64) (y := (s.fs[k].page : Int)) rfl ?_
    refine br_mk (fun hq2 => ?_) (fun hq2 => miss (by rw [hq]; simpa using hq2))
    have : s.find n g = some k := by
      unfold Pl.find
      rw [List.findIdx?_eq_some_iff_getElem]
      exact ⟨hlt, by rw [hq]; simpa using hq2, fun j hj => by simpa using hno j (by omega) hj⟩
    rw [this] at hK
    exact hK
  · have hge : k = s.fs.length := by rw [hn] at hc; simp at hc; omega
    have : s.find n g = none := by
      unfold Pl.find
      rw [List.findIdx?_eq_none_iff]
      intro f hf'
      obtain ⟨j, hj, rfl⟩ := List.getElem_of_mem hf'
      exact hno j hj (by omega)
    rw [this] at hK
    exact hK

theorem RPheld_ok {c : Int} {K : Int → Heap → Prop} (h : RPoolG ll zs H p dp s) (hnx : s.next < 9223372036854775807) (hK : K (idxO (s.held c)) H) : fathomref03_Pool_held.sp (at0 p) c H K := by
  refine fathomref03_Pool_held.of ?_
  unfold fathomref03_Pool_held.vc
  simp only [optK_eq]
  have hn := h.n
  have hlen := h.wf.len; have hmost := h.wf.most; have htick := h.wf.tick
  refine loop_upto s.fs.length (fun k x H1 => x = (k : Int) ∧ H1 = H ∧ ∀ j (hj : j < s.fs.length), j < k → s.fs[j].pins.contains c = false) ⟨rfl, rfl, fun j _ h => by omega⟩ ?_
  rintro k _ H1 next hk ⟨rfl, rfl, hno⟩ hnext
  refine h.head.ld (c := cSl) (i := 2) (x := ll) rfl ?_
  refine br_mk (fun hc => ?_) (fun hc => ?_)
  · have hlt : k < s.fs.length := by rw [hn] at hc; simpa using hc
    have hfk : s.fs[k]? = some s.fs[k] := List.getElem?_eq_getElem hlt
    obtain ⟨gg, hz⟩ := h.at hfk
    have hp := h.frames.ent _ (List.mem_of_getElem? hz)
    have hpl : s.fs[k].pins.length ≤ s.pins := le_sum (fun f : Fr => f.pins.length) s.fs k _ hfk
    have hpn := hp.n (by decide)
    simp only at hp hpn
    refine loop_upto s.fs[k].pins.length (fun j x H2 => x = (j : Int) ∧ H2 = H1 ∧ ∀ q (hq : q < s.fs[k].pins.length), q < j → s.fs[k].pins[q] ≠ c) ⟨rfl, rfl, fun j _ h => by omega⟩ ?_
    rintro j _ H2 next2 hj ⟨rfl, rfl, hno2⟩ hnext2
    refine h.head.ld (c := cSl) (i := 2) (x := ll) rfl ?_
    refine h.frames.ld hz (j := 5) (c := cSl) (y := gg) rfl ?_
    have hw : IntKind.i64.wrap ((j : Int) + 1) = ((j + 1 : Nat) : Int) := by rw [wrap64 (by omega) (by omega)]; omega
    refine br_mk (fun hc2 => ?_) (fun hc2 => ?_)
    · have hjl : j < s.fs[k].pins.length := by rw [hpn] at hc2; simpa using hc2
      refine h.head.ld (c := cSl) (i := 2) (x := ll) rfl ?_
      refine h.frames.ld hz (j := 5) (c := cSl) (y := gg) rfl ?_
      refine pins_ld hp hjl ?_
      refine br_mk (fun hq => ?_) (fun hq => ?_)
      · have hq' : s.fs[k].pins[j] = c := by simpa using hq
        have : s.held c = some k := by
          unfold Pl.held
          rw [List.findIdx?_eq_some_iff_getElem]
          exact ⟨hlt, by rw [List.contains_iff_mem, ← hq']; exact List.getElem_mem _, fun j hj => by simpa using hno j (by omega) hj⟩
        rw [this] at hK
        exact hK
      · refine hnext2 hjl _ _ ⟨hw, rfl, fun q hq2 hqj => ?_⟩
        rcases Nat.lt_or_ge q j with r | r
        · exact hno2 q hq2 r
        · have : q = j := by omega
          subst this; simpa using hq
    · have hge : j = s.fs[k].pins.length := by rw [hpn] at hc2; simp at hc2; omega
      refine hnext hlt _ _ ⟨succ64 k (by omega), rfl, fun q hq hqk => ?_⟩
      rcases Nat.lt_or_ge q k with r | r
      · exact hno q hq r
      · have : q = k := by omega
        subst this
        rw [Bool.eq_false_iff]
        intro hm
        rw [List.contains_iff_mem] at hm
        obtain ⟨i, hi, e⟩ := List.getElem_of_mem hm
        exact hno2 i hi (by omega) e
  · have hge : k = s.fs.length := by rw [hn] at hc; simp at hc; omega
    have : s.held c = none := by
      unfold Pl.held
      rw [List.findIdx?_eq_none_iff]
      intro f hf'
      obtain ⟨j, hj, rfl⟩ := List.getElem_of_mem hf'
      exact hno j hj (by omega)
    rw [this] at hK
    exact hK

theorem RPmet_ok {e : Int} {K : Int → Heap → Prop} (h : RPoolD ll zs D H p dp s)
    (hK : ∀ H', RPoolD ll zs D H' p dp (s.met e) → Step (fun b => D b ∨ rpa ll zs p b) (fun b => D b ∨ rpa ll zs p b) H H' → K e H') : fathomref03_Pool_met.sp (at0 p) e H K := by
  refine fathomref03_Pool_met.of ?_
  unfold fathomref03_Pool_met.vc
  simp only [optK_eq]
  have hw := h.pool.wf.met e
  refine br_mk (fun hb => ?_) (fun hb => ?_)
  · have em : s.met e = { s with wrong := e } := by unfold Pl.met bad; rw [if_pos hb]
    refine h.pool.head.st (i := 6) (by decide : 6 < 7) (by rfl) fun H' r m z => ?_
    have hp : RPoolG ll zs H' p dp (s.met e) := h.pool.turnHead (by rw [em]; exact r) m (by rw [em]) hw
    obtain ⟨q1, q2⟩ := h.stepP hp (by rw [em]) (m.mono fun b _ q => .inl q) (fun b q => .inl q)
    exact hK H' q1 q2
  · have em : s.met e = s := by unfold Pl.met bad; rw [hb]; rfl
    exact hK H (by rw [em]; exact h) (.refl _ _)

theorem RFr.erase {H' : Heap} {ll' : Sl} {i : Nat} (h : RFr H ll zs) (harr : SlE ERp ty_fathomref03_Frame H' ll' (zs.eraseIdx i)) (hm : ∀ u ∈ zs, ∀ b, ownB u.2 b → b < H.size → H'[b]? = H[b]?) : RFr H' ll' (zs.eraseIdx i) := by
  refine ⟨harr, fun z hz => ?_, ?_⟩
  · have hz' := List.mem_of_mem_eraseIdx hz
    exact (h.ent z hz').keep fun b hb hl => hm z hz' b hb hl
  · intro a c u v h1 h2 hac
    rw [List.getElem?_eraseIdx] at h1 h2
    split at h1 <;> split at h2 <;> exact h.apart _ _ u v h1 h2 (by omega)

theorem RFr.push {H' : Heap} {ll' : Sl} {f : Fr} (h : RFr H ll zs) (hp : f.pins = []) (harr : SlE ERp ty_fathomref03_Frame H' ll' (zs ++ [(f, Sl.mk none 0 0)])) (hm : ∀ u ∈ zs, ∀ b, ownB u.2 b → b < H.size → H'[b]? = H[b]?) : RFr H' ll' (zs ++ [(f, Sl.mk none 0 0)]) := by
  refine ⟨harr, fun z hz => ?_, ?_⟩
  · rcases List.mem_append.1 hz with q | q
    · exact (h.ent z q).keep fun b hb hl => hm z q b hb hl
    · simp at q; subst q
      simp only [hp]
      exact SlE.nil _ _ _
  · intro i j u v h1 h2 hij b hb1 hb2
    have ex : ∀ (i : Nat) (u : RZ), (zs ++ [(f, Sl.mk none 0 0)])[i]? = some u → (zs[i]? = some u) ∨ (i = zs.length ∧ u = (f, Sl.mk none 0 0)) := by
      intro i u h1
      by_cases hi : i < zs.length
      · rw [List.getElem?_append_left hi] at h1; exact .inl h1
      · rw [List.getElem?_append_right (by omega)] at h1
        have : i = zs.length := by
          have := (List.getElem?_eq_some_iff.1 h1).1; simp at this; omega
        subst this
        simp at h1
        exact .inr ⟨rfl, h1.symm⟩
    rcases ex i u h1 with q1 | ⟨e1, rfl⟩ <;> rcases ex j v h2 with q2 | ⟨e2, rfl⟩
    · exact h.apart i j u v q1 q2 hij b hb1 hb2
    · exact nil_own hb2
    · exact nil_own hb1
    · omega

theorem rpf_erase (i : Nat) : rpf (zs.eraseIdx i) = (rpf zs).eraseIdx i := map_erase _ _ _

theorem RPdrop_ok {i : Nat} {K : Unit → Heap → Prop} (h : RPoolD ll zs D H p dp s) (hi : i < s.fs.length)
    (hK : ∀ ll' H', RPoolD ll' (zs.eraseIdx i) D H' p dp (s.drop i) → Step (fun b => D b ∨ rpa ll zs p b) (fun b => D b ∨ rpa ll' (zs.eraseIdx i) p b) H H' → K () H') : fathomref03_Pool_drop.sp (at0 p) i H K := by
  refine fathomref03_Pool_drop.of ?_
  unfold fathomref03_Pool_drop.vc
  simp only [optK_eq]
  have hlen := h.pool.wf.len; have hmost := h.pool.wf.most
  have hn := h.pool.n
  have hzl := h.pool.len
  have hcap := h.pool.frames.arr.cap
  refine h.pool.head.ld (c := cSl) (i := 2) (x := ll) rfl ?_
  refine ⟨⟨by omega, by omega⟩, ?_⟩
  have t1 : RdE ERp H (slA ll.a ll.c 0 7) (zs.take i) := by rw [slA_zero']; exact h.pool.frames.arr.rd.take
  refine SlE.append (E := ERp) elRp (s := Sl.mk none 0 0) (x := ⟨slA ll.a ll.c 0 7, (i : Int).toNat - 0, ll.c - 0⟩) (l := []) (SlE.nil _ _ _) t1 (by simp; omega) (by simp; omega) (by simp; omega) fun l1 H1 o1 g1 _ => ?_
  have f1 : ∀ b, ownB l1 b → H.size ≤ b := fun b hb => (g1.2 b hb).resolve_left nil_own
  have m1 : Ext H H1 := g1.1.mono fun b _ hb => nil_own hb
  have h1 := h.ext m1
  refine h1.pool.head.ld (c := cSl) (i := 2) (x := ll) rfl ?_
  have hw : IntKind.i64.wrap ((i : Int) + 1) = ((i + 1 : Nat) : Int) := succ64 i (by omega)
  simp only [hw]
  refine ⟨⟨by omega, by omega⟩, ?_⟩
  have t2 : RdE ERp H1 (slA ll.a ll.c (i + 1) 7) (zs.drop (i + 1)) := RdE.drop h1.pool.frames.arr.rd (by omega)
  simp only [Int.toNat_natCast]
  refine SlE.append (E := ERp) elRp (s := l1) (x := ⟨slA ll.a ll.c (i + 1) 7, ll.n - (i + 1), ll.c - (i + 1)⟩) o1 t2 (by simp; omega) (by simp; omega) (by simp; omega) fun l2 H2 o2 g2 _ => ?_
  have z1 := m1.size; have z2 := g2.1.size
  have f2 : ∀ b, ownB l2 b → H.size ≤ b := fun b hb => by
    rcases g2.2 b hb with q | q
    · exact f1 b q
    · omega
  have m2 : Ext H H2 := ⟨by omega, fun b hb _ => (g2.1.same b (by omega) fun hh => by have := f1 b hh; omega).trans (m1.same b hb id)⟩
  have h2 := h.ext m2
  refine h2.pool.head.st (i := 2) (by decide : 2 < 7) (by rfl) fun H3 r3 m3 s3 => ?_
  have hpl := obj_lt h.pool.head
  have off := RPoolG.off h.pool.head h.pool.frames
  have hp3 : RPoolG l2 (zs.eraseIdx i) H3 p dp (s.drop i) := by
    refine ⟨r3, ?_, ?_, h.pool.wf.drop i⟩
    · refine h2.pool.frames.erase ?_ (fun u hu b hb hl => m3.same b hl fun e => off (e ▸ .inr ⟨u, hu, hb⟩))
      rw [List.eraseIdx_eq_take_drop_succ]
      simp only [List.nil_append] at o2
      exact o2.keep fun b hb hl => m3.same b hl fun e => by have := f2 b hb; omega
    · show s.fs.eraseIdx i = _
      rw [rpf_erase, h.pool.fs]
  have mm : Mod (rpa ll zs p) H H3 := ⟨by omega, fun b hb hne => (m3.same b (by omega) fun e => hne (.inl e)).trans (m2.same b hb id)⟩
  obtain ⟨q1, q2⟩ := h.stepP hp3 rfl mm (by
    rintro b (q | ⟨u, hu, q⟩)
    · exact .inr (f2 b q)
    · exact .inl (.inr ⟨u, List.mem_of_mem_eraseIdx hu, q⟩))
  exact hK l2 H3 q1 q2

theorem arrP_st (h : SlE ERp ty_fathomref03_Frame H ll zs) {i j : Nat} {z z' : RZ} {v : Value} (hz : zs[i]? = some z) (hj : j < 7) (hp : plainV v = true) (hy : ERp.enc z' = (ERp.enc z).set j v) {K : Heap → Prop}
    (hK : ∀ H', SlE ERp ty_fathomref03_Frame H' ll (zs.set i z') → Mod (ownB ll) H H' → H'.size = H.size → K H') :
    optK ll.a fun a => (0 ≤ (i : Int) ∧ (i : Int) < (ll.n : Int)) ∧ Go.Proofs.YtbhddkmfhampbaaGreatDoor.st H ((a.add ((i : Int).toNat * 7)).add j) v K := by
  have hi := (List.getElem?_eq_some_iff.1 hz).1
  obtain ⟨ad, ha⟩ := RdE.addr h.rd (by decide) (by omega)
  rw [ha]
  refine ⟨⟨by omega, by rw [h.n (by decide)]; omega⟩, ?_⟩
  exact SlE.st (E := ERp) h ha hz hj hp hy (by simp [ERp]) hK
theorem arrP_ld (h : SlE ERp ty_fathomref03_Frame H ll zs) {i j : Nat} {z : RZ} (hz : zs[i]? = some z) {c : Cod} {y : c.α} (hj : (ERp.enc z)[j]? = some (c.enc y)) {ad : Addr} (ha : ll.a = some ad) : hCell H ((ad.add ((i : Int).toNat * 7)).add j) = some (c.enc y) := by
  obtain ⟨ad', e1, hc⟩ := RdE.cell h.rd hz hj
  rw [ha] at e1; cases e1
  rw [add_add]
  exact hc

/-- A frame's cells, one turned. -/
theorem RPoolD.turnCell {H' : Heap} {i : Nat} {f f' : Fr} {g : Sl} {s' : Pl} (h : RPoolD ll zs D H p dp s) (hz : zs[i]? = some (f, g)) (harr : SlE ERp ty_fathomref03_Frame H' ll (zs.set i (f', g))) (hm : Mod (ownB ll) H H')
    (hpins : f'.pins = f.pins) (hs : s'.fs = s.fs.modify i fun _ => f') (hw : s'.WF) (hd : s'.d = s.d) (hh : headM dp ll s' = headM dp ll s) :
    RPoolD ll (zs.set i (f', g)) D H' p dp s' ∧ Step (fun b => D b ∨ rpa ll zs p b) (fun b => D b ∨ rpa ll (zs.set i (f', g)) p b) H H' := by
  have hzm := List.mem_of_getElem? hz
  have hfs : s.fs[i]? = some f := by rw [h.pool.fs]; simp [rpf, hz]
  obtain ⟨t1, t2⟩ := h.pool.frames.set hz harr (z' := (f', g)) (by
    have := h.pool.frames.ent _ hzm
    simp only at this ⊢
    rw [hpins]
    exact this.keep fun b hb hl => hm.same b hl (h.pool.frames.arrOff hzm b hb)) (fun u hu b hb _ hl => hm.same b hl (h.pool.frames.arrOff hu b hb)) (fun b hb => .inl hb)
  have hp : RPoolG ll (zs.set i (f', g)) H' p dp s' := by
    refine ⟨?_, t1, ?_, hw⟩
    · rw [hh]
      exact hm.at h.pool.head fun q => RPoolG.off h.pool.head h.pool.frames (.inl q)
    · rw [hs, modify_set hfs, h.pool.fs]; simp [rpf, List.map_set]
  exact h.stepP hp hd (hm.mono fun b _ q => .inr (.inl q)) t2

theorem RPwrite_ok {i : Nat} {f : Fr} {g : Sl} {K : Int → Heap → Prop} (h : RPoolD ll zs D H p dp s) (hz : zs[i]? = some (f, g)) (hlogs : s.d.logs + 1 < 68719476736)
    (hK : ∀ zs' D' H', RPoolD ll zs' D' H' p dp (s.put i).1 → Step (fun b => D b ∨ rpa ll zs p b) (fun b => D' b ∨ rpa ll zs' p b) H H' → K (s.put i).2 H') : fathomref03_Pool_write.sp (at0 p) i H K := by
  refine fathomref03_Pool_write.of ?_
  unfold fathomref03_Pool_write.vc
  simp only [optK_eq]
  have hzm := List.mem_of_getElem? hz
  have hfs : s.fs[i]? = some f := by rw [h.pool.fs]; simp [rpf, hz]
  have hil := (List.getElem?_eq_some_iff.1 hfs).1
  have hfr := Pl.frame_eq hfs
  have hb := h.pool.wf.room f (List.mem_of_getElem? hfs)
  have hn := h.pool.n
  have hzl := h.pool.len
  obtain ⟨ad, ha⟩ := RdE.addr h.pool.frames.arr.rd (by decide) (by omega)
  have hlt := h.lt
  refine ⟨fun A => RowT A p ty_fathomref03_Pool (headM dp ll s) ∧ SlE ERp ty_fathomref03_Frame A ll zs, ⟨h.pool.head, h.pool.frames.arr⟩, ?_⟩
  refine ⟨ll, fun A hA => by rw [add_lit0]; exact hA.1.cell rfl, ?_⟩
  simp only [ha, optK_eq]
  refine ⟨⟨by omega, by omega⟩, ?_⟩
  refine ⟨(f.kind.toNat : Int), fun A hA => arrP_ld (c := cInt .u8) hA.2 hz (j := 2) (y := (f.kind.toNat : Int)) rfl ha, ?_⟩
  refine h.pool.head.ld (c := cSl) (i := 2) (x := ll) rfl ?_
  refine h.pool.frames.ld hz (j := 3) (c := cStr) (y := strB f.b) rfl ?_
  refine toBytes_ok fun x4 H1 b1 e1 f1 => ?_
  have h1 := h.ext e1
  refine ⟨⟨h1.pool.head, h1.pool.frames.arr⟩, ?_⟩
  refine RSeal_ok b1 hb fun r H2 o2 e2 f2 => ?_
  have h2 := h1.ext e2
  have z1 := e1.size; have z2 := e2.size
  refine h2.pool.head.ld (c := cPtr) (i := 0) (x := at0 dp) rfl ?_
  refine h2.pool.head.ld (c := cSl) (i := 2) (x := ll) rfl ?_
  refine h2.pool.frames.ld hz (j := 0) (c := cStr) (y := f.name) rfl ?_
  refine h2.pool.head.ld (c := cSl) (i := 2) (x := ll) rfl ?_
  refine h2.pool.frames.ld hz (j := 1) (c := cInt .i64) (y := (f.page : Int)) rfl ?_
  refine RWrite_ok h2.disk (SlB_byts o2) (fun ad ha hD => ?_) hlogs fun D' H3 a3 S3 => ?_
  · have := f2 ad.block ⟨ad, ha, rfl⟩
    have := hlt _ (.inl hD); omega
  have hput : s.put i = if (s.d.write f.name f.page f.sealF).2 = 0 then ((s.setD (s.d.write f.name f.page f.sealF).1).turn i Fr.clean, 0) else (s.setD (s.d.write f.name f.page f.sealF).1, (s.d.write f.name f.page f.sealF).2) := by
    unfold Pl.put; rw [hfr]
  rw [hput] at hK
  obtain ⟨q1, q2⟩ := h2.stepD a3 S3
  have q2' : Step (fun b => D b ∨ rpa ll zs p b) (fun b => D' b ∨ rpa ll zs p b) H H3 := q2.ahead (e1.trans e2)
  show br ((s.d.write f.name f.page f.sealF).2 == 0) _ _
  refine br_mk (fun hq => ?_) (fun hq => ?_)
  · have hq' : (s.d.write f.name f.page f.sealF).2 = 0 := by simpa using hq
    rw [if_pos hq'] at hK
    refine q1.pool.head.ld (c := cSl) (i := 2) (x := ll) rfl ?_
    refine arrP_st q1.pool.frames.arr hz (j := 4) (z' := (f.clean, g)) (v := .bool false) (by decide) rfl rfl fun H4 o4 m4 s4 => ?_
    obtain ⟨u1, u2⟩ := q1.turnCell (i := i) (s' := (s.setD (s.d.write f.name f.page f.sealF).1).turn i Fr.clean) hz o4 m4 rfl (by
      show s.fs.modify i Fr.clean = s.fs.modify i fun _ => f.clean
      rw [modify_set hfs, modify_set hfs]) ((h.pool.wf.setD _).turn hfs rfl rfl rfl hb) rfl rfl
    have := hK _ D' H4 u1 (q2'.trans u2)
    show K (s.d.write f.name f.page f.sealF).2 H4
    rw [hq']; exact this
  · have hq' : (s.d.write f.name f.page f.sealF).2 ≠ 0 := by simpa using hq
    rw [if_neg hq'] at hK
    exact hK zs D' H3 q1 q2'

/-! ### Room -/

theorem bestF_snoc (f : Fr) : ∀ (l : List Fr) (i : Nat) (b : Option (Nat × Int)), bestF (l ++ [f]) i b = if f.pins.isEmpty && lessB f (bestF l i b) then some (i + l.length, f.left) else bestF l i b
  | [], i, b => by simp [bestF]
  | a :: l, i, b => by
    rw [List.cons_append]
    unfold bestF
    rw [bestF_snoc f l (i + 1)]
    simp only [List.length_cons, Nat.add_assoc, Nat.add_comm 1]

theorem RProom_ok {K : Int → Heap → Prop} (h : RPoolD ll zs D H p dp s) (hlogs : s.d.logs + 1 < 68719476736)
    (hK : ∀ ll' zs' D' H', RPoolD ll' zs' D' H' p dp s.room.1 → Step (fun b => D b ∨ rpa ll zs p b) (fun b => D' b ∨ rpa ll' zs' p b) H H' → K s.room.2 H') : fathomref03_Pool_room.sp (at0 p) H K := by
  refine fathomref03_Pool_room.of ?_
  unfold fathomref03_Pool_room.vc
  simp only [optK_eq]
  have hn := h.pool.n
  have hlen := h.pool.wf.len; have hmost := h.pool.wf.most
  refine h.pool.head.ld (c := cSl) (i := 2) (x := ll) rfl ?_
  refine h.pool.head.ld (c := cInt .i64) (i := 1) (x := (s.most : Int)) rfl ?_
  refine br_mk (fun hc => ?_) (fun hc => ?_)
  · have hlt : s.fs.length < s.most := by simp at hc; omega
    have e : s.room = (s, 0) := by unfold Pl.room; rw [if_pos hlt]
    rw [e] at hK
    exact hK ll zs D H h (.refl _ _)
  have hge : ¬ s.fs.length < s.most := by simp at hc; omega
  refine loop_upto s.fs.length (fun k x H1 => H1 = H ∧ x.1 = idxO ((bestF (s.fs.take k) 0 none).map (·.1)) ∧ x.2 = (k : Int)) ⟨rfl, rfl, rfl⟩ ?_
  rintro k ⟨bi, i⟩ H1 next hk ⟨rfl, hbi, hi⟩ hnext
  simp only at hbi hi hnext ⊢
  subst hbi
  subst hi
  refine h.pool.head.ld (c := cSl) (i := 2) (x := ll) rfl ?_
  refine br_mk (fun hc => ?_) (fun hc => ?_)
  · have hlt : k < s.fs.length := by rw [hn] at hc; simpa using hc
    have hfk : s.fs[k]? = some s.fs[k] := List.getElem?_eq_getElem hlt
    obtain ⟨gg, hz⟩ := h.pool.at hfk
    have hsn : bestF (s.fs.take (k + 1)) 0 none = if s.fs[k].pins.isEmpty && lessB s.fs[k] (bestF (s.fs.take k) 0 none) then some (k, s.fs[k].left) else bestF (s.fs.take k) 0 none := by
      rw [List.take_succ_eq_append_getElem hlt, bestF_snoc]
      simp [Nat.min_eq_left (Nat.le_of_lt hlt)]
    have hok : bestOk (s.fs.take k) (bestF (s.fs.take k) 0 none) := by
      have := bestF_ok (s.fs.take k) [] none (by intro f hf; cases hf)
      simpa using this
    have hw := succ64 k (by omega)
    rw [hw]
    refine h.pool.head.ld (c := cSl) (i := 2) (x := ll) rfl ?_
    refine h.pool.frames.ld hz (j := 5) (c := cSl) (y := gg) rfl ?_
    have hpn := (h.pool.frames.ent _ (List.mem_of_getElem? hz)).n (by decide)
    simp only at hpn
    have hpe : (((gg.n : Int) == (0 : Int)) == true) = s.fs[k].pins.isEmpty := by
      rw [hpn]; cases s.fs[k].pins <;> simp
      omega
    rw [hpe]
    cases hpi : s.fs[k].pins.isEmpty with
    | false =>
      rw [hpi, Bool.false_and, if_neg (by simp)] at hsn
      exact br_f rfl (hnext hlt _ _ ⟨rfl, by rw [hsn], rfl⟩)
    | true =>
      refine br_t rfl ?_
      rw [hpi, Bool.true_and] at hsn
      rw [idxO_neg]
      cases hb : bestF (s.fs.take k) 0 none with
      | none =>
        rw [hb] at hsn
        refine br_t rfl (hnext hlt _ _ ⟨rfl, ?_, rfl⟩)
        rw [hsn]; rfl
      | some jt =>
        obtain ⟨j, t⟩ := jt
        rw [hb] at hsn hok
        obtain ⟨fj, h1, h2, h3, h4⟩ := hok
        have hjk : j < k := by have := (List.getElem?_eq_some_iff.1 h1).1; simp at this; omega
        have hfj : s.fs[j]? = some fj := by rw [List.getElem?_take, if_pos hjk] at h1; exact h1
        obtain ⟨gj, hzj⟩ := h.pool.at hfj
        refine br_f rfl ?_
        refine h.pool.head.ld (c := cSl) (i := 2) (x := ll) rfl ?_
        refine h.pool.frames.ld hz (j := 6) (c := cInt .i64) (y := s.fs[k].left) rfl ?_
        refine h.pool.head.ld (c := cSl) (i := 2) (x := ll) rfl ?_
        refine h.pool.frames.ld hzj (j := 6) (c := cInt .i64) (y := fj.left) rfl ?_
        rw [h3]
        refine br_mk (fun hq => ?_) (fun hq => ?_)
        · have : lessB s.fs[k] (some (j, t)) = true := hq
          rw [this, if_pos rfl] at hsn
          exact hnext hlt _ _ ⟨rfl, by rw [hsn]; rfl, rfl⟩
        · have : lessB s.fs[k] (some (j, t)) = false := hq
          rw [this, if_neg (by simp)] at hsn
          exact hnext hlt _ _ ⟨rfl, by rw [hsn], rfl⟩
  · have hke : k = s.fs.length := by rw [hn] at hc; simp at hc; omega
    rw [hke, List.take_of_length_le (Nat.le_refl _)]
    have hbest : (bestF s.fs 0 none).map (·.1) = s.best := rfl
    rw [hbest]
    unfold Pl.room at hK
    rw [if_neg hge] at hK
    rw [idxO_neg]
    cases hb : s.best with
    | none =>
      rw [hb] at hK
      exact hK ll zs D _ h (.refl _ _)
    | some i =>
      rw [hb] at hK
      simp only at hK
      refine br_f rfl ?_
      obtain ⟨f, hf, hfp, _⟩ := Pl.best_some hb
      obtain ⟨g, hz⟩ := h.pool.at hf
      have hfr := Pl.frame_eq hf
      have hil := (List.getElem?_eq_some_iff.1 hf).1
      rw [hfr] at hK
      refine h.pool.head.ld (c := cSl) (i := 2) (x := ll) rfl ?_
      refine h.pool.frames.ld hz (j := 4) (c := cBool) (y := f.dirty) rfl ?_
      cases hdr : f.dirty with
      | true =>
        rw [hdr, if_pos rfl] at hK
        refine br_t rfl ?_
        refine RPwrite_ok h hz hlogs fun zs' D' H' h' S' => ?_
        refine br_mk (fun hq => ?_) (fun hq => ?_)
        · have hq' : ¬ (s.put i).2 = 0 := by simpa using hq
          rw [if_neg hq'] at hK
          exact hK ll zs' D' H' h' S'
        · have hq' : (s.put i).2 = 0 := by simpa using hq
          rw [if_pos hq'] at hK
          refine RPdrop_ok h' (by rw [Pl.put_len]; exact hil) fun ll2 H2 h2 S2 => ?_
          exact hK ll2 _ D' H2 h2 (S'.trans S2)
      | false =>
        rw [hdr, if_neg (by simp)] at hK
        refine br_f rfl ?_
        exact RPdrop_ok h hil fun ll2 H2 h2 S2 => hK ll2 _ D H2 h2 S2

/-! ### A handle more -/

theorem RPpin_low {t : Pl} {i : Nat} {f : Fr} {g : Sl} {K : Int → Heap → Prop} (hd : RowT H p ty_fathomref03_Pool (headM dp ll t)) (hfr : RFr H ll zs) (hz : zs[i]? = some (f, g)) (hzl : zs.length ≤ 4097) (hpl : f.pins.length < 1099511627775) (hn0 : 0 ≤ t.next) (hnx : t.next < 9223372036854775807)
    (hK : ∀ g' H', RowT H' p ty_fathomref03_Pool (headM dp ll { t with next := w64 (t.next + 1) }) → RFr H' ll (zs.set i (Fr.pin t.next f, g')) → Mod (rpa ll zs p) H H' → (∀ b, rpp ll (zs.set i (Fr.pin t.next f, g')) b → rpp ll zs b ∨ H.size ≤ b) → K t.next H') : fathomref03_Pool_pin.sp (at0 p) i H K := by
  refine fathomref03_Pool_pin.of ?_
  unfold fathomref03_Pool_pin.vc
  simp only [optK_eq]
  have hzm := List.mem_of_getElem? hz
  have hil := (List.getElem?_eq_some_iff.1 hz).1
  have hn := hfr.arr.n (by decide)
  have hg := hfr.ent _ hzm
  simp only at hg
  obtain ⟨ad, ha⟩ := RdE.addr hfr.arr.rd (by decide) (by omega)
  have off := RPoolG.off hd hfr
  have aoff := hfr.arrOff hzm
  simp only at aoff
  refine ⟨fun A => RowT A p ty_fathomref03_Pool (headM dp ll t) ∧ SlE ERp ty_fathomref03_Frame A ll zs, ⟨hd, hfr.arr⟩, ?_⟩
  refine ⟨ll, fun A hA => by rw [add_lit0]; exact hA.1.cell rfl, ?_⟩
  refine ⟨ll, fun A hA => by rw [add_lit0]; exact hA.1.cell rfl, ?_⟩
  simp only [ha, optK_eq]
  refine ⟨⟨by omega, by omega⟩, ?_⟩
  refine ⟨g, fun A hA => arrP_ld (c := cSl) hA.2 hz (j := 5) (y := g) rfl ha, ?_⟩
  refine hd.ld (c := cInt .i64) (i := 3) (x := t.next) rfl ?_
  refine SlE.pushJ (E := EI) elInt (x := t.next) hg rfl (by omega) (by omega) _ (fun H1 s1 m1 => ⟨hd.ext m1, hfr.arr.ext m1⟩) fun s2 H2 o2 g2 _ => ?_
  have d2 : RowT H2 p ty_fathomref03_Pool (headM dp ll t) := hd.mod g2.1 fun hb => off (.inr ⟨_, hzm, hb⟩)
  have a2 : SlE ERp ty_fathomref03_Frame H2 ll zs := hfr.arr.keep fun b hb hl => g2.1.same b hl fun hh => aoff b hh hb
  refine ⟨⟨d2, a2⟩, ?_⟩
  have hst := arrP_st a2 hz (j := 5) (z' := (Fr.pin t.next f, s2)) (v := s2.v) (by decide) rfl rfl (K := fun H3 => ld (cInt .i64) H3 (Addr.add ⟨p, 0, none⟩ 3) fun (x_4 : Int) => st H3 (Addr.add ⟨p, 0, none⟩ 3) (.int .i64 (IntKind.i64.wrap (x_4 + (1 : Int)))) fun H4 => ld (cInt .i64) H4 (Addr.add ⟨p, 0, none⟩ 3) fun (x_5 : Int) => K (IntKind.i64.wrap (x_5 - (1 : Int))) H4) fun H3 o3 m3 s3 => ?_
  · simp only [ha, optK_eq] at hst
    exact hst
  have d3 : RowT H3 p ty_fathomref03_Pool (headM dp ll t) := d2.mod m3 fun hb => off (.inl hb)
  refine d3.ld (c := cInt .i64) (i := 3) (x := t.next) rfl ?_
  refine d3.st (i := 3) (by decide : 3 < 7) (by rfl) fun H4 d4 m4 s4 => ?_
  have d4' : RowT H4 p ty_fathomref03_Pool (headM dp ll { t with next := w64 (t.next + 1) }) := d4
  refine d4'.ld (c := cInt .i64) (i := 3) (x := w64 (t.next + 1)) rfl ?_
  have hw : IntKind.i64.wrap (w64 (t.next + 1) - 1) = t.next := by
    unfold w64
    rw [wrap64 (x := t.next + 1) (by omega) (by omega), wrap64 (by omega) (by omega)]; omega
  rw [hw]
  have z2 := g2.1.size
  have s2p : ∀ b, ownB s2 b → b ≠ p := fun b hb e => by
    obtain ⟨c, q⟩ := o2.obj b hb
    rw [e] at q
    exact absurd (cells_ty d2 q) (by decide)
  have s2a : ∀ b, ownB s2 b → ¬ ownB ll b := o2.apart a2 (by decide)
  obtain ⟨t1, t2⟩ := hfr.set (H' := H4) hz (z' := (Fr.pin t.next f, s2)) (o3.keep fun b hb hl => m4.same b hl fun e => off (e ▸ .inl hb))
    (o2.keep fun b hb hl => (m4.same b (by omega) (s2p b hb)).trans (m3.same b hl (s2a b hb)))
    (fun u hu b hb hne hl => (m4.same b (by omega) fun e => off (e ▸ .inr ⟨u, hu, hb⟩)).trans ((m3.same b (by omega) (hfr.arrOff hu b hb)).trans (g2.1.same b hl hne)))
    (fun b hb => g2.2 b hb)
  refine hK s2 H4 d4' t1 ?_ t2
  exact ((g2.1.mono fun b _ q => .inr (.inr ⟨_, hzm, q⟩)).trans (m3.mono fun b _ q => .inr (.inl q))).trans (m4.mono fun b _ q => .inl q)

theorem RPpin_ok {i : Nat} {f : Fr} {g : Sl} {K : Int → Heap → Prop} (h : RPoolD ll zs D H p dp s) (hz : zs[i]? = some (f, g)) (hnx : s.next < 1099511627775)
    (hK : ∀ zs' H', RPoolD ll zs' D H' p dp (s.pinAt i) → Step (fun b => D b ∨ rpa ll zs p b) (fun b => D b ∨ rpa ll zs' p b) H H' → K s.next H') : fathomref03_Pool_pin.sp (at0 p) i H K := by
  have hfs : s.fs[i]? = some f := by rw [h.pool.fs]; simp [rpf, hz]
  have hpl : f.pins.length ≤ s.pins := le_sum (fun f : Fr => f.pins.length) s.fs i f hfs
  have ht := h.pool.wf.tick; have hlen := h.pool.wf.len; have hmost := h.pool.wf.most; have hzl := h.pool.len
  refine RPpin_low (t := s) h.pool.head h.pool.frames hz (by omega) (by omega) (by omega) (by omega) fun g' H' d' r' m' o' => ?_
  have hp : RPoolG ll (zs.set i (Fr.pin s.next f, g')) H' p dp (s.pinAt i) := by
    refine ⟨d', r', ?_, h.pool.wf.pinAt hfs (by omega)⟩
    show s.fs.modify i (Fr.pin s.next) = _
    rw [modify_set hfs, h.pool.fs]; simp [rpf, List.map_set]
  obtain ⟨q1, q2⟩ := h.stepP hp rfl m' o'
  exact hK _ H' q1 q2

theorem RPtake_ok {f : Fr} {K : Int → Heap → Prop} (h : RPoolD ll zs D H p dp s) (hl : s.fs.length < s.most) (hnx : s.next < 1099511627775) (hk : s.find f.name f.page = none) (hb : f.b.length ≤ 504) (hpg : f.page < 1048577) (hnm : f.name.size ≤ 9223372036854775807) (hp : f.pins = []) (hlf : f.left = 0) (hdf : f.dirty = false)
    (hK : ∀ ll' zs' H', RPoolD ll' zs' D H' p dp (s.take f) → Step (fun b => D b ∨ rpa ll zs p b) (fun b => D b ∨ rpa ll' zs' p b) H H' → K s.next H') :
    fathomref03_Pool_take.sp (at0 p) f.name (f.page : Int) (f.kind.toNat : Int) (strB f.b) false (Sl.mk none 0 0) (0 : Int) H K := by
  refine fathomref03_Pool_take.of ?_
  unfold fathomref03_Pool_take.vc
  simp only [optK_eq]
  have ht := h.pool.wf.tick; have hlen := h.pool.wf.len; have hmost := h.pool.wf.most; have hzl := h.pool.len; have hn := h.pool.n
  have hwt := h.pool.wf.take hl (by omega) hk hb hpg hnm hp hlf
  refine newC_rowT fun H1 s1 r1 e1 => ?_
  have h1 := h.ext e1
  refine ⟨fun A => RowT A p ty_fathomref03_Pool (headM dp ll s), h1.pool.head, ?_⟩
  refine ⟨ll, fun A hA => by rw [add_lit0]; exact hA.cell rfl, ?_⟩
  refine RowT.ldA (x := (f.name, (f.page : Int), (f.kind.toNat : Int), strB f.b, false, Sl.mk none 0 0, (0 : Int))) r1 rfl rfl ?_
  refine SlE.pushJ (E := ERp) elRp (x := (f, Sl.mk none 0 0)) h1.pool.frames.arr (by simp [ERp, hlf, hdf]) (by omega) (by omega) (fun A => RowT A p ty_fathomref03_Pool (headM dp ll s)) (fun H2 s2 m2 => h1.pool.head.ext m2) fun s3 H3 o3 g3 _ => ?_
  have off := RPoolG.off h.pool.head h.pool.frames
  have d3 : RowT H3 p ty_fathomref03_Pool (headM dp ll s) := h1.pool.head.mod g3.1 fun q => off (.inl q)
  refine d3.st (i := 2) (by decide : 2 < 7) (by rfl) fun H4 d4 m4 s4 => ?_
  have d4' : RowT H4 p ty_fathomref03_Pool (headM dp s3 s) := d4
  refine d4'.ld (c := cInt .i64) (i := 5) (x := (s.peak : Int)) rfl ?_
  refine d4'.ld (c := cSl) (i := 2) (x := s3) rfl ?_
  have hs3 := o3.n (by decide)
  have hs3' : s3.n = s.fs.length + 1 := by rw [hs3]; simp; omega
  have ep : (if (s3.n : Int) > (s.peak : Int) then (s3.n : Int) else (s.peak : Int)) = ((max s.peak (s.fs.length + 1) : Nat) : Int) := by
    rw [hs3']; split <;> omega
  simp only [ep]
  refine d4'.st (i := 5) (by decide : 5 < 7) (by rfl) fun H5 d5 m5 s5 => ?_
  have d5' : RowT H5 p ty_fathomref03_Pool (headM dp s3 (s.add f)) := d5
  refine d5'.ld (c := cSl) (i := 2) (x := s3) rfl ?_
  have hw1 : IntKind.i64.wrap ((s3.n : Int) - 1) = (s.fs.length : Int) := by rw [hs3', wrap64 (by omega) (by omega)]; omega
  rw [hw1]
  have z1 := e1.size; have z3 := g3.1.size
  have s3p : ∀ b, ownB s3 b → b ≠ p := fun b hb e => by
    obtain ⟨c, q⟩ := o3.obj b hb
    rw [e] at q
    exact absurd (cells_ty d3 q) (by decide)
  have m05 : Mod (rpa ll zs p) H H5 := (((Ext.mod e1).trans (g3.1.mono fun b _ q => .inr (.inl q))).trans (m4.mono fun b _ q => .inl q)).trans (m5.mono fun b _ q => .inl q)
  have o5 : SlE ERp ty_fathomref03_Frame H5 s3 (zs ++ [(f, Sl.mk none 0 0)]) := o3.keep fun b hb hl => (m5.same b (by omega) (s3p b hb)).trans (m4.same b hl (s3p b hb))
  have fr5 : RFr H5 s3 (zs ++ [(f, Sl.mk none 0 0)]) := by
    refine h.pool.frames.push hp o5 fun u hu b hb hl => ?_
    have hne : b ≠ p := fun e => off (e ▸ .inr ⟨u, hu, hb⟩)
    exact (m5.same b (by omega) hne).trans ((m4.same b (by omega) hne).trans ((g3.1.same b (by omega) (h.pool.frames.arrOff hu b hb)).trans (e1.same b hl id)))
  have hz5 : (zs ++ [((f, Sl.mk none 0 0) : RZ)])[s.fs.length]? = some (f, Sl.mk none 0 0) := by rw [hzl]; simp
  refine RPpin_low (t := s.add f) d5' fr5 hz5 (by simp; omega) (by rw [hp]; simp) (by show 0 ≤ s.next; omega) (by show s.next < _; omega) fun g' H' d' r' m' o' => ?_
  have hpG : RPoolG s3 ((zs ++ [(f, Sl.mk none 0 0)]).set s.fs.length (Fr.pin s.next f, g')) H' p dp (s.take f) := by
    refine ⟨d', r', ?_, hwt⟩
    show (s.fs ++ [f]).modify s.fs.length (Fr.pin s.next) = _
    have hadd : (s.fs ++ [f])[s.fs.length]? = some f := by simp
    rw [modify_set hadd, h.pool.fs]; simp [rpf, List.map_set]
  have o3' : ∀ b, rpp s3 (zs ++ [(f, Sl.mk none 0 0)]) b → rpp ll zs b ∨ H.size ≤ b := by
    rintro b (q | ⟨u, hu, q⟩)
    · rcases g3.2 b q with r | r
      · exact .inl (.inl r)
      · exact .inr (by omega)
    · rcases List.mem_append.1 hu with r | r
      · exact .inl (.inr ⟨u, r, q⟩)
      · simp at r; subst r; exact absurd q nil_own
  have zz : H.size ≤ H5.size := m05.size
  obtain ⟨q1, q2⟩ := h.stepP hpG rfl (m05.trans' m' (by
    rintro b hb (q | q)
    · exact .inl q
    · rcases o3' b q with r | r
      · exact .inr r
      · omega)) (fun b hb => by
    rcases o' b hb with q | q
    · exact o3' b q
    · exact .inr (by omega))
  exact hK _ _ H' q1 q2

end
end Go.Proofs.YtbhddkmfhampbaaGreatDoor

/-
  The document's pool: made; pages pinned, fresh, told, put to, left; how many are pinned.
-/
namespace Go.Proofs.YtbhddkmfhampbaaGreatDoor

section
variable {F : Nat → Prop} {H : Heap} {p dp : Nat} {s : Pl} {n : ByteArray}

theorem RPNew_ok {D : Nat → Prop} {d : Dk} {m : Nat} {K : (Option Addr × Int) → Heap → Prop} (hd : RefAt D H dp d) (h8 : 8 ≤ m) (hm : m ≤ 4096)
    (hK : ∀ F p H', RPoolAt F H' p dp (pl0 d m) → Ext H H' → (∀ b, F b → D b ∨ H.size ≤ b) → K (at0 p, 0) H') : fathomref03_New.sp (at0 dp) (m : Int) H K := by
  refine fathomref03_New.of ?_
  unfold fathomref03_New.vc
  refine br_f rfl ?_
  refine br_f (by simp; omega) ?_
  refine br_f (by simp; omega) ?_
  refine newC_rowT fun H1 s1 r1 e1 => ?_
  have hlt := hd.lt
  have hp : RPoolG (Sl.mk none 0 0) [] H1 H.size dp (pl0 d m) := ⟨r1, ⟨SlE.nil _ _ _, by simp, by intro i j z z' h; simp at h⟩, rfl, pl0_wf h8 hm⟩
  refine hK (fun b => D b ∨ rpa (Sl.mk none 0 0) [] H.size b) H.size H1 ⟨Sl.mk none 0 0, [], D, ⟨hp, hd.keep fun b _ hl => e1.same b hl id, ?_⟩, fun _ => Iff.rfl⟩ e1 ?_
  · rintro b hb (q | q | ⟨z, hz, _⟩)
    · have := hlt b hb; omega
    · exact nil_own q
    · cases hz
  · rintro b (q | q | q | ⟨z, hz, _⟩)
    · exact .inl q
    · exact .inr (by omega)
    · exact absurd q nil_own
    · cases hz
theorem RPNew_bad {fr : Int} {K : (Option Addr × Int) → Heap → Prop} (hf : fr < 8 ∨ 4096 < fr) (hK : K (none, if fr < 8 then 30 else 3) H) : fathomref03_New.sp (at0 dp) fr H K := by
  refine fathomref03_New.of ?_
  unfold fathomref03_New.vc
  refine br_f rfl ?_
  refine br_mk (fun h => ?_) (fun h => ?_)
  · have : fr < 8 := by simpa using h
    rw [if_pos this] at hK; exact hK
  · have h8 : ¬ fr < 8 := by simpa using h
    rw [if_neg h8] at hK
    exact br_t (by simp; omega) hK

theorem RPPin_ok {k : Int} {K : (Int × Int) → Heap → Prop} (h : RPoolAt F H p dp s) (hn : n.size ≤ 9223372036854775807) (hlogs : s.d.logs + 2 < 68719476736) (hnx : s.next < 1099511627775)
    (hK : ∀ F' H', RPoolAt F' H' p dp (s.pin n k).1 → Step F F' H H' → K ((s.pin n k).2.1, (s.pin n k).2.2) H') : fathomref03_Pool_Pin.sp (at0 p) n k H K := by
  obtain ⟨ll, zs, D, g, hF⟩ := h
  refine fathomref03_Pool_Pin.of ?_
  unfold fathomref03_Pool_Pin.vc
  simp only [optK_eq]
  have out : ∀ {ll' : Sl} {zs' : List RZ} {D' : Nat → Prop} {A : Heap} {t : Pl} {a e : Int}, RPoolD ll' zs' D' A p dp t → Step (fun b => D b ∨ rpa ll zs p b) (fun b => D' b ∨ rpa ll' zs' p b) H A → s.pin n k = (t, a, e) → K (a, e) A := by
    intro ll' zs' D' A t a e h1 S1 he
    obtain ⟨F', q1, q2⟩ := h1.out hF S1
    have := hK F' A (by rw [he]; exact q1) q2
    rw [he] at this; exact this
  have fin : ∀ {ll' : Sl} {zs' : List RZ} {D' : Nat → Prop} {A : Heap} {t : Pl} {e : Int}, RPoolD ll' zs' D' A p dp t → Step (fun b => D b ∨ rpa ll zs p b) (fun b => D' b ∨ rpa ll' zs' p b) H A → s.pin n k = (t.met e, 0, e) →
      fathomref03_Pool_met.sp (at0 p) e A fun r H' => K (0, r) H' := by
    intro ll' zs' D' A t e h1 S1 he
    exact RPmet_ok h1 fun A' h2 S2 => out h2 (S1.trans S2) he
  refine g.pool.head.ld (c := cInt .i64) (i := 6) (x := s.wrong) rfl ?_
  refine br_mk (fun hw => ?_) (fun hw => ?_)
  · have hw' : s.wrong ≠ 0 := by simpa using hw
    refine g.pool.head.ld (c := cInt .i64) (i := 6) (x := s.wrong) rfl ?_
    exact out g (.refl _ _) (by unfold Pl.pin; rw [if_pos hw'])
  have hw' : ¬ s.wrong ≠ 0 := by simpa using hw
  refine RPfind_ok g.pool ?_
  rw [idxO_pos]
  cases hi : s.find n k with
  | some i =>
    obtain ⟨f, hf, _, _⟩ := Pl.find_some hi
    obtain ⟨gg, hz⟩ := g.pool.at hf
    exact br_t rfl (RPpin_ok g hz hnx fun zs' A h1 S1 => out h1 S1 (by unfold Pl.pin; rw [if_neg hw', hi]))
  | none =>
    refine br_f rfl ?_
    refine g.pool.head.ld (c := cPtr) (i := 0) (x := at0 dp) rfl ?_
    refine RLen_ok g.disk (by omega) fun H3 e3 => ?_
    have g3 := g.ext e3
    have S3 : Step (fun b => D b ∨ rpa ll zs p b) (fun b => D b ∨ rpa ll zs p b) H H3 := Step.ext e3
    have hload : s.pin n k = match s.load n k with | (q, some f, _) => (q.take f, q.next, 0) | (q, none, e) => (q.met e, 0, e) := by unfold Pl.pin; rw [if_neg hw', hi]; rfl
    have bad1 : ∀ {t : Pl} {e : Int}, s.load n k = (t, none, e) → s.pin n k = (t.met e, 0, e) := fun he => by rw [hload, he]
    have hlenle := Dk.len_le g.disk.wf n
    by_cases hl : (s.d.len n).2 = 0
    · by_cases hp : k < 0 ∨ k ≥ (s.d.len n).1
      · refine br_t (by simp [hl]; omega) (br_f rfl (br_t rfl (fin g3 S3 (bad1 ?_))))
        unfold Pl.load; rw [if_neg (by simp [hl]), if_pos hp]
      · refine br_f (by simp [hl]; omega) (br_t (by simp [hl]) ?_)
        refine RProom_ok g3 (by omega) fun ll4 zs4 D4 H4 h4 S4 => ?_
        have S34 := S3.trans S4
        have hrl := s.room_logs
        by_cases hr : s.room.2 = 0
        · refine br_f (by simp [hr]) ?_
          refine h4.pool.head.ld (c := cPtr) (i := 0) (x := at0 dp) rfl ?_
          refine RReadC_ok h4.disk (by omega) fun r H5 b5 e5 f5 c5 => ?_
          have h5 := h4.ext e5
          by_cases hrd : (s.room.1.d.read n k).2 = 0
          · refine br_f (by simp [hrd]) ?_
            have h512 := (Dk.read_len s.room.1.d n k).2 hrd
            refine ROpen_ok b5 c5 h512 (fun ho H6 e6 => ?_) (fun kd b sl H6 ho hbl o6 e6 f6 => ?_)
            · refine br_t rfl (fin (h5.ext e6) ((S34.behind e5).behind e6) (bad1 ?_))
              unfold Pl.load; rw [if_neg (by simp [hl]), if_neg hp, if_neg (by simp [hr]), if_neg (by simp [hrd]), ho]
            · refine br_f rfl ?_
              refine strB_eq (SlB_byts o6) ?_
              obtain ⟨pg, rfl⟩ : ∃ pg : Nat, k = pg := ⟨k.toNat, by omega⟩
              have hrs := s.room_same
              have hrw := g.pool.wf.roomed
              refine RPtake_ok (f := ⟨n, pg, kd, b, false, [], 0⟩) (h5.ext e6) (by rw [hrs.1]; exact hrw.2 hr) (by rw [hrs.2.1]; exact hnx) (Pl.room_find hi) hbl (by show pg < _; omega) hn rfl rfl rfl fun ll7 zs7 H7 h7 S7 => ?_
              refine out h7 (((S34.behind e5).behind e6).trans S7) ?_
              rw [hload]
              unfold Pl.load; rw [if_neg (by simp [hl]), if_neg hp, if_neg (by simp [hr]), if_neg (by simp [hrd]), ho]
              simp
          · refine br_t (by simp [hrd]) (fin h5 (S34.behind e5) (bad1 ?_))
            unfold Pl.load; rw [if_neg (by simp [hl]), if_neg hp, if_neg (by simp [hr]), if_pos (by simpa using hrd)]
        · refine br_t (by simp [hr]) (fin h4 S34 (bad1 ?_))
          unfold Pl.load; rw [if_neg (by simp [hl]), if_neg hp, if_pos (by simpa using hr)]
    · refine br_f (by simp [hl]) (br_f (by simp [hl]) (br_t (by simp [hl]) (fin g3 S3 (bad1 ?_))))
      unfold Pl.load; rw [if_pos (by simpa using hl)]

theorem RPFresh_ok {K : (Int × Int × Int) → Heap → Prop} (h : RPoolAt F H p dp s) (hn : n.size ≤ 9223372036854775807) (hlogs : s.d.logs + 2 < 68719476736) (hnx : s.next < 1099511627775) (hfit : s.Fit)
    (hK : ∀ F' H', RPoolAt F' H' p dp (s.fresh n).1 → Step F F' H H' → K ((s.fresh n).2.1, (s.fresh n).2.2.1, (s.fresh n).2.2.2) H') : fathomref03_Pool_Fresh.sp (at0 p) n H K := by
  obtain ⟨ll, zs, D, g, hF⟩ := h
  refine fathomref03_Pool_Fresh.of ?_
  unfold fathomref03_Pool_Fresh.vc
  simp only [optK_eq]
  have out : ∀ {ll' : Sl} {zs' : List RZ} {D' : Nat → Prop} {A : Heap} {t : Pl} {a b e : Int}, RPoolD ll' zs' D' A p dp t → Step (fun b => D b ∨ rpa ll zs p b) (fun b => D' b ∨ rpa ll' zs' p b) H A → s.fresh n = (t, a, b, e) → K (a, b, e) A := by
    intro ll' zs' D' A t a b e h1 S1 he
    obtain ⟨F', q1, q2⟩ := h1.out hF S1
    have := hK F' A (by rw [he]; exact q1) q2
    rw [he] at this; exact this
  have fin : ∀ {ll' : Sl} {zs' : List RZ} {D' : Nat → Prop} {A : Heap} {t : Pl} {e : Int}, RPoolD ll' zs' D' A p dp t → Step (fun b => D b ∨ rpa ll zs p b) (fun b => D' b ∨ rpa ll' zs' p b) H A → s.fresh n = (t.met e, 0, 0, e) →
      fathomref03_Pool_met.sp (at0 p) e A fun r H' => K (0, 0, r) H' := by
    intro ll' zs' D' A t e h1 S1 he
    exact RPmet_ok h1 fun A' h2 S2 => out h2 (S1.trans S2) he
  refine g.pool.head.ld (c := cInt .i64) (i := 6) (x := s.wrong) rfl ?_
  refine br_mk (fun hw => ?_) (fun hw => ?_)
  · have hw' : s.wrong ≠ 0 := by simpa using hw
    refine g.pool.head.ld (c := cInt .i64) (i := 6) (x := s.wrong) rfl ?_
    exact out g (.refl _ _) (by unfold Pl.fresh; rw [if_pos hw'])
  have hw' : ¬ s.wrong ≠ 0 := by simpa using hw
  refine g.pool.head.ld (c := cPtr) (i := 0) (x := at0 dp) rfl ?_
  refine RLen_ok g.disk (by omega) fun H3 e3 => ?_
  have g3 := g.ext e3
  have S3 : Step (fun b => D b ∨ rpa ll zs p b) (fun b => D b ∨ rpa ll zs p b) H H3 := Step.ext e3
  have hlenle := Dk.len_le g.disk.wf n
  by_cases hl : (s.d.len n).2 = 0
  · refine br_t (by simp [hl]) ?_
    refine RProom_ok g3 (by omega) fun ll4 zs4 D4 H4 h4 S4 => ?_
    have S34 := S3.trans S4
    have hrl := s.room_logs
    by_cases hr : s.room.2 = 0
    · refine br_f (by simp [hr]) ?_
      refine RSeal_ok (kind := 0) (l := []) (Byts.nil _) (by simp) fun r H5 o5 e5 f5 => ?_
      have h5 := h4.ext e5
      refine h5.pool.head.ld (c := cPtr) (i := 0) (x := at0 dp) rfl ?_
      have hlt := h4.lt
      refine RWrite_ok h5.disk (SlB_byts o5) (fun ad ha hD => ?_) (by omega) fun D6 H6 a6 S6 => ?_
      · have := f5 ad.block ⟨ad, ha, rfl⟩
        have := hlt _ (.inl hD); omega
      obtain ⟨q1, q2⟩ := h5.stepD a6 S6
      have S36 := (S34.behind e5).trans q2
      by_cases hwr : (s.room.1.d.write n (s.d.len n).1 (sealP 0 [])).2 = 0
      · refine br_f (by simp [hwr]) ?_
        have hrs := s.room_same
        have hrw := g.pool.wf.roomed
        refine RPtake_ok (f := ⟨n, (s.d.len n).1, 0, [], false, [], 0⟩) q1 (by show s.room.1.fs.length < s.room.1.most; rw [hrs.1]; exact hrw.2 hr) (by show s.room.1.next < _; rw [hrs.2.1]; exact hnx) (Pl.room_find (hfit.new hl)) (by simp) (by show (s.d.len n).1 < _; omega) hn rfl rfl rfl fun ll7 zs7 H7 h7 S7 => ?_
        refine out h7 (S36.trans S7) ?_
        unfold Pl.fresh; rw [if_neg hw', if_neg (by simp [hl]), if_neg (by simp [hr]), if_neg (by simp [hwr])]
        rfl
      · refine br_t (by simp [hwr]) (fin q1 S36 ?_)
        unfold Pl.fresh; rw [if_neg hw', if_neg (by simp [hl]), if_neg (by simp [hr]), if_pos (by simpa using hwr)]
    · refine br_t (by simp [hr]) (fin h4 S34 ?_)
      unfold Pl.fresh; rw [if_neg hw', if_neg (by simp [hl]), if_pos (by simpa using hr)]
  · refine br_f (by simp [hl]) (br_t (by simp [hl]) (fin g3 S3 ?_))
    unfold Pl.fresh; rw [if_neg hw', if_pos (by simpa using hl)]

theorem RPGet_ok {c : Int} {K : (Int × Sl × Int) → Heap → Prop} (h : RPoolAt F H p dp s) (hnx : s.next < 9223372036854775807)
    (hK : ∀ sl H', Byts H' sl (s.get c).2.1 → Ext H H' → (∀ b, ownB sl b → H.size ≤ b) → K (((s.get c).1.toNat : Int), sl, (s.get c).2.2) H') : fathomref03_Pool_Get.sp (at0 p) c H K := by
  obtain ⟨ll, zs, D, g, hF⟩ := h
  refine fathomref03_Pool_Get.of ?_
  unfold fathomref03_Pool_Get.vc
  simp only [optK_eq]
  have none_ : ∀ e : Int, s.get c = (0, [], e) → K (0, Sl.mk none 0 0, e) H := by
    intro e he
    have := hK (Sl.mk none 0 0) H (by rw [he]; exact Byts.nil _) (.refl _ _) (fun b q => absurd q nil_own)
    rw [he] at this; exact this
  refine RPheld_ok g.pool hnx ?_
  refine g.pool.head.ld (c := cInt .i64) (i := 6) (x := s.wrong) rfl ?_
  refine br_mk (fun hw => ?_) (fun hw => ?_)
  · have hw' : s.wrong ≠ 0 := by simpa using hw
    refine g.pool.head.ld (c := cInt .i64) (i := 6) (x := s.wrong) rfl ?_
    exact none_ _ (by unfold Pl.get; rw [if_pos hw'])
  have hw' : ¬ s.wrong ≠ 0 := by simpa using hw
  rw [idxO_neg]
  cases hi : s.held c with
  | none => exact br_t rfl (none_ _ (by unfold Pl.get; rw [if_neg hw', hi]))
  | some i =>
    refine br_f rfl ?_
    obtain ⟨f, hf, _⟩ := Pl.held_some hi
    obtain ⟨gg, hz⟩ := g.pool.at hf
    have hil := (List.getElem?_eq_some_iff.1 hf).1
    have hn := g.pool.n; have hzl := g.pool.len
    obtain ⟨ad, ha⟩ := RdE.addr g.pool.frames.arr.rd (by decide) (by omega)
    have he : s.get c = (f.kind, f.b, 0) := by unfold Pl.get; rw [if_neg hw', hi]; simp only; rw [Pl.frame_eq hf]
    rw [he] at hK
    refine ⟨fun A => RowT A p ty_fathomref03_Pool (headM dp ll s) ∧ SlE ERp ty_fathomref03_Frame A ll zs, ⟨g.pool.head, g.pool.frames.arr⟩, ?_⟩
    refine ⟨ll, fun A hA => by rw [add_lit0]; exact hA.1.cell rfl, ?_⟩
    simp only [ha, optK_eq]
    refine ⟨⟨by simp only [idxO]; omega, by simp only [idxO]; omega⟩, ?_⟩
    refine ⟨(f.kind.toNat : Int), fun A hA => arrP_ld (c := cInt .u8) hA.2 hz (j := 2) (y := (f.kind.toNat : Int)) rfl ha, ?_⟩
    refine g.pool.head.ld (c := cSl) (i := 2) (x := ll) rfl ?_
    refine g.pool.frames.ld hz (j := 3) (c := cStr) (y := strB f.b) rfl ?_
    refine toBytes_ok fun x4 H1 b1 e1 f1 => ?_
    exact ⟨⟨g.pool.head.ext e1, g.pool.frames.arr.ext e1⟩, hK x4 H1 b1 e1 f1⟩

theorem RPPut_ok {c : Int} {kd : UInt8} {b : Sl} {l : List UInt8} {K : Int → Heap → Prop} (h : RPoolAt F H p dp s) (hnx : s.next < 9223372036854775807) (hb : Byts H b l) (hbF : ∀ ad, b.a = some ad → ¬ F ad.block)
    (hK : ∀ F' H', RPoolAt F' H' p dp (s.set c kd l).1 → Step F F' H H' → K (s.set c kd l).2 H') : fathomref03_Pool_Put.sp (at0 p) c (kd.toNat : Int) b H K := by
  have h00 := h
  obtain ⟨ll, zs, D, g, hF⟩ := h
  refine fathomref03_Pool_Put.of ?_
  unfold fathomref03_Pool_Put.vc
  simp only [optK_eq]
  have stay : ∀ e : Int, s.set c kd l = (s, e) → K e H := by
    intro e he
    have := hK F H (by rw [he]; exact h00) (.refl _ _)
    rw [he] at this; exact this
  refine RPheld_ok g.pool hnx ?_
  refine g.pool.head.ld (c := cInt .i64) (i := 6) (x := s.wrong) rfl ?_
  refine br_mk (fun hw => ?_) (fun hw => ?_)
  · have hw' : s.wrong ≠ 0 := by simpa using hw
    refine g.pool.head.ld (c := cInt .i64) (i := 6) (x := s.wrong) rfl ?_
    exact stay _ (by unfold Pl.set; rw [if_pos hw'])
  have hw' : ¬ s.wrong ≠ 0 := by simpa using hw
  rw [idxO_neg]
  cases hi : s.held c with
  | none => exact br_t rfl (stay _ (by unfold Pl.set; rw [if_neg hw', hi]))
  | some i =>
    refine br_f rfl ?_
    have hbn := hb.n
    refine br_mk (fun hc => ?_) (fun hc => ?_)
    · have hgt : l.length > 504 := by simp at hc; omega
      exact stay _ (by unfold Pl.set; rw [if_neg hw', hi]; simp only; rw [if_pos hgt])
    have hle : ¬ l.length > 504 := by simp at hc; omega
    have he : s.set c kd l = (s.turn i (Fr.set kd l), 0) := by unfold Pl.set; rw [if_neg hw', hi]; simp only; rw [if_neg hle]
    rw [he] at hK
    obtain ⟨f, hf, _⟩ := Pl.held_some hi
    obtain ⟨gg, hz⟩ := g.pool.at hf
    have hil := (List.getElem?_eq_some_iff.1 hf).1
    have hil2 := (List.getElem?_eq_some_iff.1 hz).1
    have off := RPoolG.off g.pool.head g.pool.frames
    refine g.pool.head.ld (c := cSl) (i := 2) (x := ll) rfl ?_
    refine arrP_st g.pool.frames.arr hz (j := 2) (z' := ({ f with kind := kd }, gg)) (v := .int .u8 (kd.toNat : Int)) (by decide) rfl rfl fun H1 o1 m1 s1 => ?_
    have d1 : RowT H1 p ty_fathomref03_Pool (headM dp ll s) := g.pool.head.mod m1 fun q => off (.inl q)
    refine d1.ld (c := cSl) (i := 2) (x := ll) rfl ?_
    have b1 : Byts H1 b l := hb.keep fun ad ha hl => m1.same _ hl fun q => hbF ad ha ((hF _).2 (.inr (.inr (.inl q))))
    refine strB_eq b1 ?_
    have hz1 : (zs.set i ({ f with kind := kd }, gg))[i]? = some ({ f with kind := kd }, gg) := by simp [hil2]
    refine arrP_st o1 hz1 (j := 3) (z' := ({ f with kind := kd, b := l }, gg)) (v := .string (strB l)) (by decide) rfl rfl fun H2 o2 m2 s2 => ?_
    have d2 : RowT H2 p ty_fathomref03_Pool (headM dp ll s) := d1.mod m2 fun q => off (.inl q)
    refine d2.ld (c := cSl) (i := 2) (x := ll) rfl ?_
    rw [List.set_set] at o2
    have hz2 : (zs.set i ({ f with kind := kd, b := l }, gg))[i]? = some ({ f with kind := kd, b := l }, gg) := by simp [hil2]
    refine arrP_st o2 hz2 (j := 4) (z' := (Fr.set kd l f, gg)) (v := .bool true) (by decide) rfl rfl fun H3 o3 m3 s3 => ?_
    rw [List.set_set] at o3
    obtain ⟨u1, u2⟩ := g.turnCell (i := i) (s' := s.turn i (Fr.set kd l)) hz o3 ((m1.trans m2).trans m3) rfl (by
      show s.fs.modify i (Fr.set kd l) = s.fs.modify i fun _ => Fr.set kd l f
      rw [modify_set hf, modify_set hf]) (g.pool.wf.turn hf rfl rfl rfl (by simp only [Fr.set]; omega)) rfl rfl
    obtain ⟨F', q1, q2⟩ := u1.out hF u2
    exact hK F' H3 q1 q2

theorem RPUnpin_ok {c : Int} {K : Int → Heap → Prop} (h : RPoolAt F H p dp s) (hnx : s.next < 1099511627775)
    (hK : ∀ F' H', RPoolAt F' H' p dp (s.unpin c).1 → Step F F' H H' → K (s.unpin c).2 H') : fathomref03_Pool_Unpin.sp (at0 p) c H K := by
  have h00 := h
  obtain ⟨ll, zs, D, g, hF⟩ := h
  have hwf := g.pool.wf.unpin c (by omega)
  refine fathomref03_Pool_Unpin.of ?_
  unfold fathomref03_Pool_Unpin.vc
  simp only [optK_eq]
  have stay : ∀ e : Int, s.unpin c = (s, e) → K e H := by
    intro e he
    have := hK F H (by rw [he]; exact h00) (.refl _ _)
    rw [he] at this; exact this
  refine RPheld_ok g.pool (by omega) ?_
  refine g.pool.head.ld (c := cInt .i64) (i := 6) (x := s.wrong) rfl ?_
  refine br_mk (fun hw => ?_) (fun hw => ?_)
  · have hw' : s.wrong ≠ 0 := by simpa using hw
    refine g.pool.head.ld (c := cInt .i64) (i := 6) (x := s.wrong) rfl ?_
    exact stay _ (by unfold Pl.unpin; rw [if_pos hw'])
  have hw' : ¬ s.wrong ≠ 0 := by simpa using hw
  rw [idxO_neg]
  cases hi : s.held c with
  | none => exact br_t rfl (stay _ (by unfold Pl.unpin; rw [if_neg hw', hi]))
  | some i =>
    refine br_f rfl ?_
    have he : s.unpin c = ({ s with fs := s.fs.modify i (Fr.unpin c (w64 (s.tick + 1))), tick := w64 (s.tick + 1) }, 0) := by unfold Pl.unpin; rw [if_neg hw', hi]
    rw [he] at hK hwf
    obtain ⟨f, hf, _⟩ := Pl.held_some hi
    obtain ⟨gg, hz⟩ := g.pool.at hf
    have hzm := List.mem_of_getElem? hz
    have hil := (List.getElem?_eq_some_iff.1 hf).1
    have hil2 := (List.getElem?_eq_some_iff.1 hz).1
    have off := RPoolG.off g.pool.head g.pool.frames
    have hpl : f.pins.length ≤ s.pins := le_sum (fun f : Fr => f.pins.length) s.fs i f hf
    have ht := g.pool.wf.tick
    have hgg := g.pool.frames.ent _ hzm
    simp only at hgg
    have hgn := hgg.n (by decide)
    refine loop_upto f.pins.length (fun k x H2 => x.2 = (k : Int) ∧ SlE EI ty_int H2 x.1 ((f.pins.take k).filter fun x => decide (x ≠ c)) ∧ Ext H H2 ∧ ∀ b, ownB x.1 b → H.size ≤ b) ⟨rfl, SlE.nil _ _ _, .refl _ _, fun b q => absurd q nil_own⟩ ?_
    rintro k ⟨l1, j⟩ H2 next hk ⟨hj, o2, e2, f2⟩ hnext
    simp only at hj o2 f2 hnext ⊢
    subst hj
    have g2 := g.ext e2
    have z2 := e2.size
    refine g2.pool.head.ld (c := cSl) (i := 2) (x := ll) rfl ?_
    refine g2.pool.frames.ld hz (j := 5) (c := cSl) (y := gg) rfl ?_
    refine br_mk (fun hc => ?_) (fun hc => ?_)
    · have hlt : k < f.pins.length := by rw [hgn] at hc; simpa using hc
      refine g2.pool.head.ld (c := cSl) (i := 2) (x := ll) rfl ?_
      refine g2.pool.frames.ld hz (j := 5) (c := cSl) (y := gg) rfl ?_
      refine pins_ld (hgg.ext e2) hlt ?_
      have htk : (f.pins.take (k + 1)).filter (fun x => decide (x ≠ c)) = (f.pins.take k).filter (fun x => decide (x ≠ c)) ++ if f.pins[k] ≠ c then [f.pins[k]] else [] := by
        rw [List.take_succ_eq_append_getElem hlt, List.filter_append]
        congr 1
        by_cases q : f.pins[k] = c <;> simp [q]
      have hw64 : IntKind.i64.wrap ((k : Int) + 1) = ((k + 1 : Nat) : Int) := succ64 k (by omega)
      refine br_mk (fun hq => ?_) (fun hq => ?_)
      · have hq' : f.pins[k] ≠ c := by simpa using hq
        rw [if_pos hq'] at htk
        refine g2.pool.head.ld (c := cSl) (i := 2) (x := ll) rfl ?_
        refine g2.pool.frames.ld hz (j := 5) (c := cSl) (y := gg) rfl ?_
        refine pins_ld (hgg.ext e2) hlt ?_
        have hfl := List.length_filter_le (fun x => decide (x ≠ c)) (f.pins.take k)
        simp only [List.length_take] at hfl
        refine SlE.push (E := EI) elInt (x := f.pins[k]) o2 rfl (by omega) (by omega) fun l3 H3 o3 g3 _ => ?_
        have z3 := g3.1.size
        refine hnext hlt _ _ ⟨hw64, by rw [htk]; exact o3, ⟨by omega, fun b hb _ => (g3.1.same b (by omega) fun hh => by have := f2 b hh; omega).trans (e2.same b hb id)⟩, fun b hb => ?_⟩
        rcases g3.2 b hb with q | q
        · exact f2 b q
        · omega
      · have hq' : ¬ f.pins[k] ≠ c := by simpa using hq
        rw [if_neg hq', List.append_nil] at htk
        exact hnext hlt _ _ ⟨hw64, by rw [htk]; exact o2, e2, f2⟩
    · have hge : k = f.pins.length := by rw [hgn] at hc; simp at hc; omega
      rw [hge, List.take_of_length_le (Nat.le_refl _)] at o2
      refine g2.pool.head.ld (c := cSl) (i := 2) (x := ll) rfl ?_
      refine arrP_st g2.pool.frames.arr hz (j := 5) (z' := ({ f with pins := f.pins.filter fun x => decide (x ≠ c) }, l1)) (v := l1.v) (by decide) rfl rfl fun H3 o3 m3 s3 => ?_
      have d3 : RowT H3 p ty_fathomref03_Pool (headM dp ll s) := g2.pool.head.mod m3 fun q => off (.inl q)
      refine d3.ld (c := cInt .i64) (i := 4) (x := s.tick) rfl ?_
      refine d3.st (i := 4) (by decide : 4 < 7) (by rfl) fun H4 d4 m4 s4 => ?_
      obtain ⟨t, htt⟩ : ∃ t : Pl, t = { s with fs := s.fs.modify i (Fr.unpin c (w64 (s.tick + 1))), tick := w64 (s.tick + 1) } := ⟨_, rfl⟩
      have d4' : RowT H4 p ty_fathomref03_Pool (headM dp ll t) := by rw [htt]; exact d4
      refine d4'.ld (c := cSl) (i := 2) (x := ll) rfl ?_
      refine d4'.ld (c := cInt .i64) (i := 4) (x := w64 (s.tick + 1)) (by rw [htt]; rfl) ?_
      have o4 : SlE ERp ty_fathomref03_Frame H4 ll (zs.set i ({ f with pins := f.pins.filter fun x => decide (x ≠ c) }, l1)) := o3.keep fun b hb hl => m4.same b hl fun e => off (e ▸ .inl hb)
      have hz4 : (zs.set i (({ f with pins := f.pins.filter fun x => decide (x ≠ c) }, l1) : RZ))[i]? = some ({ f with pins := f.pins.filter fun x => decide (x ≠ c) }, l1) := by simp [hil2]
      refine arrP_st o4 hz4 (j := 6) (z' := (Fr.unpin c (w64 (s.tick + 1)) f, l1)) (v := .int .i64 (w64 (s.tick + 1))) (by decide) rfl rfl fun H5 o5 m5 s5 => ?_
      rw [List.set_set] at o5
      have l1p : ∀ b, ownB l1 b → b ≠ p := fun b hb e => by have := f2 b hb; have := obj_lt g.pool.head; omega
      have l1a : ∀ b, ownB l1 b → ¬ ownB ll b := o2.apart g2.pool.frames.arr (by decide)
      obtain ⟨t1, t2⟩ := g.pool.frames.set (H' := H5) hz (z' := (Fr.unpin c (w64 (s.tick + 1)) f, l1)) o5
        (o2.keep fun b hb hl => (m5.same b (by omega) (l1a b hb)).trans ((m4.same b (by omega) (l1p b hb)).trans (m3.same b hl (l1a b hb))))
        (fun u hu b hb _ hl => (m5.same b (by omega) (g.pool.frames.arrOff hu b hb)).trans ((m4.same b (by omega) fun e => off (e ▸ .inr ⟨u, hu, hb⟩)).trans ((m3.same b (by omega) (g.pool.frames.arrOff hu b hb)).trans (e2.same b hl id))))
        (fun b hb => .inr (f2 b hb))
      have hpG : RPoolG ll (zs.set i (Fr.unpin c (w64 (s.tick + 1)) f, l1)) H5 p dp t := by
        refine ⟨d4'.mod m5 fun q => off (.inl q), t1, ?_, by rw [htt]; exact hwf⟩
        rw [htt]
        show s.fs.modify i (Fr.unpin c (w64 (s.tick + 1))) = _
        rw [modify_set hf, g.pool.fs]; simp [rpf, List.map_set]
      obtain ⟨q1, q2⟩ := g.stepP hpG (by rw [htt]) ((((Ext.mod e2).trans (m3.mono fun b _ q => .inr (.inl q))).trans (m4.mono fun b _ q => .inl q)).trans (m5.mono fun b _ q => .inr (.inl q))) t2
      obtain ⟨F', r1, r2⟩ := q1.out hF q2
      rw [htt] at r1
      exact hK F' H5 r1 r2

theorem RPPinned_ok {K : Int → Heap → Prop} (h : RPoolAt F H p dp s) (hK : K (s.pinned : Int) H) : fathomref03_Pool_Pinned.sp (at0 p) H K := by
  obtain ⟨ll, zs, D, g, hF⟩ := h
  refine fathomref03_Pool_Pinned.of ?_
  unfold fathomref03_Pool_Pinned.vc
  simp only [optK_eq]
  have hn := g.pool.n
  have hlen := g.pool.wf.len; have hmost := g.pool.wf.most
  refine loop_upto s.fs.length (fun k x H1 => x.1 = (((s.fs.take k).filter fun f => !f.pins.isEmpty).length : Int) ∧ x.2 = (k : Int) ∧ H1 = H) ⟨rfl, rfl, rfl⟩ ?_
  rintro k ⟨c, i⟩ H1 next hk ⟨hc1, hi, rfl⟩ hnext
  simp only at hc1 hi hnext ⊢
  subst hc1
  subst hi
  refine g.pool.head.ld (c := cSl) (i := 2) (x := ll) rfl ?_
  refine br_mk (fun hc => ?_) (fun hc => ?_)
  · have hlt : k < s.fs.length := by rw [hn] at hc; simpa using hc
    obtain ⟨gg, hz⟩ := g.pool.at (List.getElem?_eq_getElem hlt)
    have hpn := (g.pool.frames.ent _ (List.mem_of_getElem? hz)).n (by decide)
    simp only at hpn
    have hcl := List.length_filter_le (fun f : Fr => !f.pins.isEmpty) (s.fs.take k)
    simp only [List.length_take] at hcl
    have htk : ((s.fs.take (k + 1)).filter fun f => !f.pins.isEmpty).length = ((s.fs.take k).filter fun f => !f.pins.isEmpty).length + if s.fs[k].pins.isEmpty then 0 else 1 := by
      rw [List.take_succ_eq_append_getElem hlt, List.filter_append, List.length_append]
      congr 1
      cases hq : s.fs[k].pins.isEmpty <;> simp [hq]
    refine g.pool.head.ld (c := cSl) (i := 2) (x := ll) rfl ?_
    refine g.pool.frames.ld hz (j := 5) (c := cSl) (y := gg) rfl ?_
    refine br_mk (fun hq => ?_) (fun hq => ?_)
    · have hne : s.fs[k].pins.isEmpty = false := by
        cases hp : s.fs[k].pins with
        | nil => rw [hp] at hpn; simp at hpn hq; omega
        | cons a r => rfl
      rw [hne] at htk
      refine hnext hlt _ _ ⟨?_, succ64 k (by omega), rfl⟩
      rw [htk, wrap64 (by omega) (by omega)]; simp
    · have he : s.fs[k].pins.isEmpty = true := by
        rw [List.isEmpty_iff]
        exact List.eq_nil_of_length_eq_zero (by simp at hq; omega)
      rw [he] at htk
      exact hnext hlt _ _ ⟨by rw [htk]; simp, succ64 k (by omega), rfl⟩
  · have hge : k = s.fs.length := by rw [hn] at hc; simp at hc; omega
    rw [hge, List.take_of_length_le (Nat.le_refl _)]
    exact hK

end
end Go.Proofs.YtbhddkmfhampbaaGreatDoor

/-
  The document's pool: Flush and Drop.
-/
namespace Go.Proofs.YtbhddkmfhampbaaGreatDoor

section
variable {F : Nat → Prop} {H : Heap} {p dp : Nat} {s : Pl} {n : ByteArray}

theorem RPFlush_ok {K : Int → Heap → Prop} (h : RPoolAt F H p dp s) (hlogs : s.d.logs < 68717000000) (hfit : s.Fit)
    (hK : ∀ F' H', RPoolAt F' H' p dp (s.flush n).1 → Step F F' H H' → K (s.flush n).2 H') : fathomref03_Pool_Flush.sp (at0 p) n H K := by
  obtain ⟨ll, zs, D, g, hF⟩ := h
  refine fathomref03_Pool_Flush.of ?_
  unfold fathomref03_Pool_Flush.vc
  simp only [optK_eq]
  have out : ∀ {ll' : Sl} {zs' : List RZ} {D' : Nat → Prop} {A : Heap} {t : Pl} {e : Int}, RPoolD ll' zs' D' A p dp t → Step (fun b => D b ∨ rpa ll zs p b) (fun b => D' b ∨ rpa ll' zs' p b) H A → s.flush n = (t, e) → K e A := by
    intro ll' zs' D' A t e h1 S1 he
    obtain ⟨F', q1, q2⟩ := h1.out hF S1
    have := hK F' A (by rw [he]; exact q1) q2
    rw [he] at this; exact this
  have fin : ∀ {ll' : Sl} {zs' : List RZ} {D' : Nat → Prop} {A : Heap} {t : Pl} {e : Int}, RPoolD ll' zs' D' A p dp t → Step (fun b => D b ∨ rpa ll zs p b) (fun b => D' b ∨ rpa ll' zs' p b) H A → s.flush n = Pl.out (t, e) →
      fathomref03_Pool_met.sp (at0 p) e A fun r H' => K r H' := by
    intro ll' zs' D' A t e h1 S1 he
    exact RPmet_ok h1 fun A' h2 S2 => out h2 (S1.trans S2) he
  refine g.pool.head.ld (c := cInt .i64) (i := 6) (x := s.wrong) rfl ?_
  refine br_mk (fun hw => ?_) (fun hw => ?_)
  · have hw' : s.wrong ≠ 0 := by simpa using hw
    refine g.pool.head.ld (c := cInt .i64) (i := 6) (x := s.wrong) rfl ?_
    exact out g (.refl _ _) (by unfold Pl.flush; rw [if_pos hw'])
  have hw' : ¬ s.wrong ≠ 0 := by simpa using hw
  refine g.pool.head.ld (c := cPtr) (i := 0) (x := at0 dp) rfl ?_
  refine RLen_ok g.disk (by omega) fun H3 e3 => ?_
  have g3 := g.ext e3
  have S3 : Step (fun b => D b ∨ rpa ll zs p b) (fun b => D b ∨ rpa ll zs p b) H H3 := Step.ext e3
  have hlenle := Dk.len_le g.disk.wf n
  by_cases hl : (s.d.len n).2 = 0
  · refine br_f (by simp [hl]) ?_
    have hfl := Pl.flushL_range g.pool.wf hfit hl
    generalize hN : (s.d.len n).1 = N at *
    obtain ⟨R, hR⟩ : ∃ R, R = Pl.flushL n (List.range N) s := ⟨_, rfl⟩
    rw [← hR] at hfl
    refine ⟨Nat, fun k x A => x = (k : Int) ∧ k ≤ N ∧ ∃ (zs' : List RZ) (D' : Nat → Prop) (t : Pl), RPoolD ll zs' D' A p dp t ∧ Step (fun b => D b ∨ rpa ll zs p b) (fun b => D' b ∨ rpa ll zs' p b) H A ∧ Pl.flushL n ((List.range N).drop k) t = R ∧ t.d.logs ≤ s.d.logs + k, fun k => N - k, ⟨0, rfl, Nat.zero_le _, zs, D, s, g3, S3, by rw [List.drop_zero, hR], Nat.le_refl _⟩, ?_⟩
    rintro k _ A ⟨rfl, hk, zs', D', t, ht, hS, hL, hlg⟩
    refine br_mk (fun hc => ?_) (fun hc => ?_)
    · have hlt : k < N := by simpa using hc
      have hdr : (List.range N).drop k = k :: (List.range N).drop (k + 1) := by
        rw [List.drop_eq_getElem_cons (by simpa using hlt)]; simp
      rw [hdr] at hL
      unfold Pl.flushL at hL
      have hw64 := succ64 k (by omega)
      refine RPfind_ok ht.pool ?_
      rw [idxO_pos]
      cases hi : t.find n k with
      | none =>
        rw [hi] at hL
        simp only at hL
        refine br_f rfl ?_
        rw [hw64]
        exact ⟨k + 1, ⟨rfl, hlt, zs', D', t, ht, hS, hL, by omega⟩, by show N - (k + 1) < N - k; omega⟩
      | some i =>
        rw [hi] at hL
        refine br_t rfl ?_
        obtain ⟨f, hf, _, _⟩ := Pl.find_some hi
        obtain ⟨gg, hz⟩ := ht.pool.at hf
        refine ht.pool.head.ld (c := cSl) (i := 2) (x := ll) rfl ?_
        refine ht.pool.frames.ld hz (j := 4) (c := cBool) (y := f.dirty) rfl ?_
        simp only [Pl.frame_eq hf] at hL
        cases hdt : f.dirty with
        | false =>
          rw [hdt, if_neg (by simp)] at hL
          refine br_f rfl ?_
          rw [hw64]
          exact ⟨k + 1, ⟨rfl, hlt, zs', D', t, ht, hS, hL, by omega⟩, by show N - (k + 1) < N - k; omega⟩
        | true =>
          rw [hdt, if_pos rfl] at hL
          refine br_t rfl ?_
          have hpl := t.put_logs i
          refine RPwrite_ok ht hz (by omega) fun zs2 D2 A2 h2 S2 => ?_
          by_cases hq : (t.put i).2 = 0
          · rw [if_pos hq] at hL
            refine br_f (by simp [hq]) ?_
            rw [hw64]
            exact ⟨k + 1, ⟨rfl, hlt, zs2, D2, (t.put i).1, h2, hS.trans S2, hL, by omega⟩, by show N - (k + 1) < N - k; omega⟩
          · rw [if_neg hq] at hL
            refine br_t (by simp [hq]) ?_
            refine fin h2 (hS.trans S2) ?_
            unfold Pl.flush
            rw [if_neg hw', if_neg (by simp [hl]), hfl, ← hL, if_pos hq]
    · have hge : k = N := by simp at hc; omega
      subst hge
      rw [List.drop_of_length_le (by simp)] at hL
      unfold Pl.flushL at hL
      refine ht.pool.head.ld (c := cPtr) (i := 0) (x := at0 dp) rfl ?_
      refine RSync_ok ht.disk (by omega) fun D5 H5 a5 S5 => ?_
      obtain ⟨q1, q2⟩ := ht.stepD a5 S5
      refine fin q1 (hS.trans q2) ?_
      unfold Pl.flush
      rw [if_neg hw', if_neg (by simp [hl]), hfl, ← hL, if_neg (by simp)]
  · refine br_t (by simp [hl]) (fin g3 S3 ?_)
    unfold Pl.flush; rw [if_neg hw', if_pos (by simpa using hl)]

/-! ### A file goes -/

def disjZ (z z' : RZ) : Prop := ∀ b, ownB z.2 b → ¬ ownB z'.2 b
theorem disjZ_pair {zs : List RZ} : (∀ (i j : Nat) (z z' : RZ), zs[i]? = some z → zs[j]? = some z' → i ≠ j → ∀ b, ownB z.2 b → ¬ ownB z'.2 b) ↔ zs.Pairwise disjZ := by
  rw [List.pairwise_iff_getElem]
  constructor
  · intro h i j hi hj hij
    exact h i j _ _ (List.getElem?_eq_getElem hi) (List.getElem?_eq_getElem hj) (by omega)
  · intro h i j z z' hz hz' hij b hb hb'
    obtain ⟨hi, rfl⟩ := List.getElem?_eq_some_iff.1 hz
    obtain ⟨hj, rfl⟩ := List.getElem?_eq_some_iff.1 hz'
    rcases Nat.lt_or_gt_of_ne hij with q | q
    · exact h i j hi hj q b hb hb'
    · exact h j i hj hi q b hb' hb
theorem RFr.sub {H' : Heap} {ll ll' : Sl} {zs zs' : List RZ} (h : RFr H ll zs) (hs : zs'.Sublist zs) (harr : SlE ERp ty_fathomref03_Frame H' ll' zs') (hm : ∀ u ∈ zs, ∀ b, ownB u.2 b → b < H.size → H'[b]? = H[b]?) : RFr H' ll' zs' :=
  ⟨harr, fun z hz => (h.ent z (hs.subset hz)).keep fun b hb hl => hm z (hs.subset hz) b hb hl, disjZ_pair.2 ((disjZ_pair.1 h.apart).sublist hs)⟩

def otherN (n : ByteArray) (z : RZ) : Bool := !(z.1.name.toList == n.toList)
theorem RPDrop_ok {K : Int → Heap → Prop} (h : RPoolAt F H p dp s) (hlogs : s.d.logs < 68719476736)
    (hK : ∀ F' H', RPoolAt F' H' p dp (s.dropF n).1 → Step F F' H H' → K (s.dropF n).2 H') : fathomref03_Pool_Drop.sp (at0 p) n H K := by
  obtain ⟨ll, zs, D, g, hF⟩ := h
  refine fathomref03_Pool_Drop.of ?_
  unfold fathomref03_Pool_Drop.vc
  simp only [optK_eq]
  have out : ∀ {ll' : Sl} {zs' : List RZ} {D' : Nat → Prop} {A : Heap} {t : Pl} {e : Int}, RPoolD ll' zs' D' A p dp t → Step (fun b => D b ∨ rpa ll zs p b) (fun b => D' b ∨ rpa ll' zs' p b) H A → s.dropF n = (t, e) → K e A := by
    intro ll' zs' D' A t e h1 S1 he
    obtain ⟨F', q1, q2⟩ := h1.out hF S1
    have := hK F' A (by rw [he]; exact q1) q2
    rw [he] at this; exact this
  have fin : ∀ {ll' : Sl} {zs' : List RZ} {D' : Nat → Prop} {A : Heap} {t : Pl} {e : Int}, RPoolD ll' zs' D' A p dp t → Step (fun b => D b ∨ rpa ll zs p b) (fun b => D' b ∨ rpa ll' zs' p b) H A → s.dropF n = Pl.out (t, e) →
      fathomref03_Pool_met.sp (at0 p) e A fun r H' => K r H' := by
    intro ll' zs' D' A t e h1 S1 he
    exact RPmet_ok h1 fun A' h2 S2 => out h2 (S1.trans S2) he
  refine g.pool.head.ld (c := cInt .i64) (i := 6) (x := s.wrong) rfl ?_
  refine br_mk (fun hw => ?_) (fun hw => ?_)
  · have hw' : s.wrong ≠ 0 := by simpa using hw
    refine g.pool.head.ld (c := cInt .i64) (i := 6) (x := s.wrong) rfl ?_
    exact out g (.refl _ _) (by unfold Pl.dropF; rw [if_pos hw'])
  have hw' : ¬ s.wrong ≠ 0 := by simpa using hw
  refine g.pool.head.ld (c := cPtr) (i := 0) (x := at0 dp) rfl ?_
  refine RLen_ok g.disk (by omega) fun H3 e3 => ?_
  have g3 := g.ext e3
  have S3 : Step (fun b => D b ∨ rpa ll zs p b) (fun b => D b ∨ rpa ll zs p b) H H3 := Step.ext e3
  by_cases hl : (s.d.len n).2 = 0
  · refine br_f (by simp [hl]) ?_
    have hn := g.pool.n
    have hlen := g.pool.wf.len; have hmost := g.pool.wf.most
    have hzl := g.pool.len
    refine loop_upto s.fs.length (fun k x A => x.2 = (k : Int) ∧ SlE ERp ty_fathomref03_Frame A x.1 ((zs.take k).filter (otherN n)) ∧ Ext H A ∧ (∀ b, ownB x.1 b → H.size ≤ b) ∧ ((s.fs.take k).any fun f => f.name.toList == n.toList && !f.pins.isEmpty) = false) ⟨rfl, SlE.nil _ _ _, e3, fun b q => absurd q nil_own, rfl⟩ ?_
    rintro k ⟨l1, j⟩ H4 next hk ⟨hj, o4, e4, f4, hno⟩ hnext
    simp only at hj o4 f4 hnext ⊢
    subst hj
    have g4 := g.ext e4
    have z4 := e4.size
    refine g4.pool.head.ld (c := cSl) (i := 2) (x := ll) rfl ?_
    refine br_mk (fun hc => ?_) (fun hc => ?_)
    · have hlt : k < s.fs.length := by rw [hn] at hc; simpa using hc
      have hfk : s.fs[k]? = some s.fs[k] := List.getElem?_eq_getElem hlt
      obtain ⟨gg, hz⟩ := g4.pool.at hfk
      have hzt : zs.take (k + 1) = zs.take k ++ [(s.fs[k], gg)] := by
        rw [List.take_add_one, hz]; rfl
      have hft : s.fs.take (k + 1) = s.fs.take k ++ [s.fs[k]] := by
        rw [List.take_succ_eq_append_getElem hlt]
      have hw64 := succ64 k (by omega)
      refine g4.pool.head.ld (c := cSl) (i := 2) (x := ll) rfl ?_
      refine g4.pool.frames.ld hz (j := 0) (c := cStr) (y := s.fs[k].name) rfl ?_
      refine br_mk (fun hq => ?_) (fun hq => ?_)
      · have hot : otherN n (s.fs[k], gg) = true := hq
        have hne : (s.fs[k].name.toList == n.toList) = false := by simpa using hq
        refine g4.pool.head.ld (c := cSl) (i := 2) (x := ll) rfl ?_
        obtain ⟨ad, ha⟩ := RdE.addr g4.pool.frames.arr.rd (by decide) (by omega)
        rw [ha]
        refine ⟨⟨by omega, by omega⟩, ?_⟩
        refine RdE.ldA (E := ERp) (c := cAgg [cStr, (cInt .i64), (cInt .u8), cStr, cBool, cSl, (cInt .i64)]) (y := (s.fs[k].name, (s.fs[k].page : Int), (s.fs[k].kind.toNat : Int), strB s.fs[k].b, s.fs[k].dirty, gg, s.fs[k].left)) g4.pool.frames.arr.rd ha hz rfl (by simp [ERp]) rfl ?_
        have hfl := List.length_filter_le (otherN n) (zs.take k)
        simp only [List.length_take] at hfl
        refine SlE.push (E := ERp) elRp (x := (s.fs[k], gg)) o4 rfl (by omega) (by omega) fun l5 H5 o5 g5 _ => ?_
        have z5 := g5.1.size
        refine hnext hlt _ _ ⟨hw64, ?_, ⟨by omega, fun b hb _ => (g5.1.same b (by omega) fun hh => by have := f4 b hh; omega).trans (e4.same b hb id)⟩, fun b hb => ?_, ?_⟩
        · rw [hzt, List.filter_append, List.filter_cons, if_pos hot]
          exact o5
        · rcases g5.2 b hb with q | q
          · exact f4 b q
          · omega
        · rw [hft, List.any_append, hno]; simp [hne]
      · have hot : otherN n (s.fs[k], gg) = false := hq
        have heq : (s.fs[k].name.toList == n.toList) = true := by simpa using hq
        refine g4.pool.head.ld (c := cSl) (i := 2) (x := ll) rfl ?_
        refine g4.pool.frames.ld hz (j := 5) (c := cSl) (y := gg) rfl ?_
        have hpn := (g4.pool.frames.ent _ (List.mem_of_getElem? hz)).n (by decide)
        simp only at hpn
        refine br_mk (fun hp => ?_) (fun hp => ?_)
        · have hpi : s.fs[k].pins.isEmpty = false := by
            cases hpp : s.fs[k].pins with
            | nil => rw [hpp] at hpn; simp at hpn hp; omega
            | cons a r => rfl
          have hany : (s.fs.any fun f => f.name.toList == n.toList && !f.pins.isEmpty) = true := List.any_eq_true.2 ⟨_, List.mem_of_getElem? hfk, by rw [heq, hpi]; rfl⟩
          refine out g4 (Step.ext e4) ?_
          unfold Pl.dropF
          rw [if_neg hw', if_neg (by simp [hl]), if_pos hany]
        · have hpi : s.fs[k].pins.isEmpty = true := by
            rw [List.isEmpty_iff]
            exact List.eq_nil_of_length_eq_zero (by simp at hp; omega)
          refine hnext hlt _ _ ⟨hw64, ?_, e4, f4, ?_⟩
          · rw [hzt, List.filter_append, List.filter_cons, hot]
            simpa using o4
          · rw [hft, List.any_append, hno]; simp [hpi]
    · have hge : k = s.fs.length := by rw [hn] at hc; simp at hc; omega
      rw [hge, List.take_of_length_le (by omega)] at o4
      rw [hge, List.take_of_length_le (Nat.le_refl _)] at hno
      refine g4.pool.head.st (i := 2) (by decide : 2 < 7) (by rfl) fun H6 d6 m6 s6 => ?_
      have off := RPoolG.off g.pool.head g.pool.frames
      have hpl := obj_lt g.pool.head
      have hpG : RPoolG l1 (zs.filter (otherN n)) H6 p dp (s.forget n) := by
        refine ⟨d6, ?_, ?_, g.pool.wf.forget n⟩
        · refine g.pool.frames.sub List.filter_sublist (o4.keep fun b hb hl => m6.same b hl fun e => by have := f4 b hb; omega) fun u hu b hb hl => (m6.same b (by omega) fun e => off (e ▸ .inr ⟨u, hu, hb⟩)).trans (e4.same b hl id)
        · show (s.fs.filter fun f => !(f.name.toList == n.toList)) = _
          rw [g.pool.fs]
          unfold rpf
          rw [List.filter_map]
          rfl
      obtain ⟨q1, q2⟩ := g.stepP hpG rfl ((Ext.mod e4).trans (m6.mono fun b _ q => .inl q)) (by
        rintro b (q | ⟨u, hu, q⟩)
        · exact .inr (f4 b q)
        · exact .inl (.inr ⟨u, (List.mem_filter.1 hu).1, q⟩))
      refine q1.pool.head.ld (c := cPtr) (i := 0) (x := at0 dp) rfl ?_
      refine RRemove_ok q1.disk fun D7 H7 a7 S7 => ?_
      obtain ⟨r1, r2⟩ := q1.stepD a7 S7
      refine fin r1 (q2.trans r2) ?_
      unfold Pl.dropF
      rw [if_neg hw', if_neg (by simp [hl]), if_neg (by rw [hno]; simp)]
      rfl
  · refine br_t (by simp [hl]) (fin g3 S3 ?_)
    unfold Pl.dropF; rw [if_neg hw', if_pos (by simpa using hl)]

end
end Go.Proofs.YtbhddkmfhampbaaGreatDoor

/-
  The pool in plain words: that each frame lies within its file stays so; how handles are counted.
-/
namespace Go.Proofs.YtbhddkmfhampbaaGreatDoor

theorem Dk.idx_modify {s t : Dk} {i : Nat} {f : Fl} {g : Fl → Fl} (hf : s.files[i]? = some f) (ht : t.files = s.files.modify i g) (hn : (g f).name = f.name) (n : ByteArray) : t.idx n = s.idx n := by
  unfold Dk.idx
  rw [ht]
  have : ∀ (l : List Fl) (j : Nat), l[j]? = some f → (l.modify j g).findIdx? (fun f => f.name.toList == n.toList) = l.findIdx? (fun f => f.name.toList == n.toList) := by
    intro l
    induction l with
    | nil => intro j h; simp at h
    | cons a l ih =>
      intro j h
      match j with
      | 0 =>
        simp at h; subst h
        simp only [List.modify_zero_cons, List.findIdx?_cons, hn]
      | j + 1 =>
        simp only [List.getElem?_cons_succ] at h
        simp only [List.modify_succ_cons, List.findIdx?_cons, ih j h]
  exact this s.files i hf
theorem Dk.write_at {s : Dk} {n : ByteArray} {k : Int} {b : List UInt8} (h : (s.write n k b).2 = 0) : 0 ≤ k ∧ k.toNat < (s.write n k b).1.size n := by
  unfold Dk.write at h ⊢
  by_cases hd : s.down = true
  · rw [if_pos hd] at h; cases h
  rw [if_neg hd] at h ⊢
  by_cases hb : b.length = 512
  · rw [dif_pos hb] at h ⊢
    cases hi : s.idx n with
    | none => rw [hi] at h; cases h
    | some i =>
      rw [hi] at h
      simp only at h ⊢
      by_cases hk : k < 0 ∨ k > (s.file i).pages.length
      · rw [if_pos hk] at h; cases h
      rw [if_neg hk] at h ⊢
      by_cases hq : k = (s.file i).pages.length ∧ s.used ≥ s.quota
      · rw [if_pos hq] at h; cases h
      rw [if_neg hq] at h ⊢
      unfold Dk.step at h ⊢
      by_cases hc : s.change.2 = 0
      · rw [if_pos hc]
        refine ⟨by omega, ?_⟩
        obtain ⟨f, hf, _⟩ := Dk.idx_some hi
        have hf2 : s.change.1.files[i]? = some f := by rw [s.change_files]; exact hf
        have hix : s.change.1.idx n = some i := by unfold Dk.idx at hi ⊢; rw [s.change_files]; exact hi
        obtain ⟨w, hw⟩ : ∃ w : Wr, w = ⟨s.change.1.next, k.toNat, ⟨b, hb⟩⟩ := ⟨_, rfl⟩
        simp only [← hw]
        obtain ⟨t, ht⟩ : ∃ t : Dk, t = (s.change.1.addW i w).setMost (max s.change.1.most (s.change.1.addW i w).used) := ⟨_, rfl⟩
        rw [← ht]
        have htf : t.files = s.change.1.files.modify i fun f => { f with log := f.log ++ [w] } := by rw [ht]; rfl
        have h2 := Dk.idx_modify (g := fun f => { f with log := f.log ++ [w] }) hf2 htf rfl n
        have h3 : t.files[i]? = some { f with log := f.log ++ [w] } := by rw [htf]; exact modify_same hf2
        unfold Dk.size
        rw [h2, hix]
        simp only
        rw [Dk.file_eq h3, Fl.addW_pages, putP_length, hw]
        show k.toNat < max _ (k.toNat + 1)
        omega
      · rw [if_neg hc] at h; exact absurd h hc
  · rw [dif_neg hb] at h; cases h
theorem Dk.read_at {s : Dk} {n : ByteArray} {k : Int} (h : (s.read n k).2 = 0) : 0 ≤ k ∧ k.toNat < s.size n := by
  unfold Dk.read Dk.open at h
  unfold Dk.size
  by_cases hd : s.down = true
  · rw [if_pos hd] at h; cases h
  rw [if_neg hd] at h
  cases hi : s.idx n with
  | none => rw [hi] at h; cases h
  | some i =>
    rw [hi] at h
    simp only at h ⊢
    by_cases hk : k < 0
    · rw [if_pos hk] at h; cases h
    rw [if_neg hk] at h
    refine ⟨by omega, ?_⟩
    rcases Nat.lt_or_ge k.toNat (s.file i).pages.length with q | q
    · exact q
    · rw [List.getElem?_eq_none q] at h; cases h

theorem keys_mem {l r : List Fr} (h : l.map Fr.key = r.map Fr.key) : ∀ f ∈ l, ∃ f' ∈ r, f'.key = f.key := by
  intro f hf
  have : f.key ∈ r.map Fr.key := by rw [← h]; exact List.mem_map_of_mem hf
  obtain ⟨f', h1, h2⟩ := List.mem_map.1 this
  exact ⟨f', h1, h2⟩
theorem Pl.Fit.keys {s t : Pl} (h : s.Fit) (hd : s.d.Grows t.d) (hk : t.fs.map Fr.key = s.fs.map Fr.key) : t.Fit := h.grow hd (keys_mem hk)
theorem Pl.Fit.met {s : Pl} (h : s.Fit) (e : Int) : (s.met e).Fit := by
  have := s.met_d e
  intro f hf
  rw [this.2.1] at hf
  rw [this.1]
  exact h f hf
theorem Pl.Fit.room {s : Pl} (h : s.Fit) : s.room.1.Fit := h.grow s.room_grows s.room_keys
theorem Pl.Fit.pinAt {s : Pl} (h : s.Fit) (i : Nat) : (s.pinAt i).Fit := h.keys (.refl _) (map_modify_all Fr.key (Fr.pin s.next) (fun _ => rfl) _ _)
theorem Pl.Fit.take {s : Pl} {f : Fr} (h : s.Fit) (hf : f.page < s.d.size f.name) : (s.take f).Fit := by
  refine Pl.Fit.pinAt ?_ s.fs.length
  intro g hg
  rcases List.mem_append.1 (show g ∈ s.fs ++ [f] from hg) with q | q
  · exact h g q
  · simp at q; subst q; exact hf
theorem Pl.load_cases (s : Pl) (n : ByteArray) (k : Int) : (∃ e, s.load n k = (s, none, e)) ∨ (∃ e, s.load n k = (s.room.1, none, e)) ∨ ∃ f, s.load n k = (s.room.1, some f, 0) ∧ f.name = n ∧ (f.page : Int) = k ∧ (s.room.1.d.read n k).2 = 0 := by
  unfold Pl.load
  split
  · exact .inl ⟨_, rfl⟩
  · split
    · exact .inl ⟨_, rfl⟩
    · rename_i hk
      split
      · exact .inr (.inl ⟨_, rfl⟩)
      · split
        · exact .inr (.inl ⟨_, rfl⟩)
        · rename_i hr
          split
          · exact .inr (.inl ⟨_, rfl⟩)
          · exact .inr (.inr ⟨_, rfl, rfl, by show ((k.toNat : Nat) : Int) = k; omega, by simpa using hr⟩)
theorem Pl.Fit.pin {s : Pl} (h : s.Fit) (n : ByteArray) (k : Int) : (s.pin n k).1.Fit := by
  unfold Pl.pin
  split
  · exact h
  · split
    · exact h.pinAt _
    · rcases s.load_cases n k with ⟨e, he⟩ | ⟨e, he⟩ | ⟨f, he, h1, h2, h3⟩
      · rw [he]; exact h.met e
      · rw [he]; exact h.room.met e
      · rw [he]
        refine h.room.take ?_
        have := (Dk.read_at h3).2
        rw [h1]; omega
theorem Pl.Fit.fresh {s : Pl} (h : s.Fit) (n : ByteArray) : (s.fresh n).1.Fit := by
  unfold Pl.fresh
  split
  · exact h
  · split
    · exact h.met _
    · split
      · exact h.room.met _
      · have h2 : (s.room.1.setD (s.room.1.d.write n (s.d.len n).1 (sealP 0 [])).1).Fit := h.room.keys (s.room.1.d.write_grows _ _ _) rfl
        split
        · exact h2.met _
        · rename_i hw
          refine h2.take ?_
          exact (Dk.write_at (show (s.room.1.d.write n (s.d.len n).1 (sealP 0 [])).2 = 0 by simpa using hw)).2
theorem Pl.Fit.set {s : Pl} (h : s.Fit) (c : Int) (k : UInt8) (b : List UInt8) : (s.set c k b).1.Fit := by
  unfold Pl.set
  split
  · exact h
  · split
    · split
      · exact h
      · exact h.keys (.refl _) (map_modify_all Fr.key (Fr.set k b) (fun _ => rfl) _ _)
    · exact h
theorem Pl.Fit.unpin {s : Pl} (h : s.Fit) (c : Int) : (s.unpin c).1.Fit := by
  unfold Pl.unpin
  split
  · exact h
  · split
    · exact h.keys (.refl _) (map_modify_all Fr.key (Fr.unpin c _) (fun _ => rfl) _ _)
    · exact h
theorem Pl.Fit.put {s : Pl} (h : s.Fit) (i : Nat) : (s.put i).1.Fit := h.keys (s.put_grows i) (s.put_keys i)
theorem Pl.Fit.flushL {n : ByteArray} : ∀ (l : List Nat) {s : Pl}, s.Fit → (Pl.flushL n l s).1.Fit
  | [], _, h => h
  | k :: l, s, h => by
    unfold Pl.flushL
    split
    · split
      · split
        · exact Pl.Fit.flushL l (h.put _)
        · exact h.put _
      · exact Pl.Fit.flushL l h
    · exact Pl.Fit.flushL l h
theorem Pl.Fit.out {r : Pl × Int} (h : r.1.Fit) : (Pl.out r).1.Fit := h.met _
theorem Pl.Fit.flush {s : Pl} (h : s.Fit) (n : ByteArray) : (s.flush n).1.Fit := by
  have h1 := Pl.Fit.flushL (n := n) (s.pagesOf n) h
  unfold Pl.flush
  split
  · exact h
  · split
    · exact Pl.Fit.out h
    · split
      · exact Pl.Fit.out h1
      · refine Pl.Fit.out ?_
        exact h1.keys (Dk.sync_grows _ _) rfl
theorem find_idx {α : Type} {q : α → Bool} {d : α} : ∀ l : List α, (l.findIdx? q).map (fun i => l.getD i d) = l.find? q
  | [] => rfl
  | a :: l => by
    rw [List.findIdx?_cons, List.find?_cons]
    cases h : q a with
    | true => simp
    | false =>
      simp only [Bool.false_eq_true, if_false, Option.map_map]
      rw [← find_idx (d := d) l]
      congr 1
theorem find_erase {α : Type} {q : α → Bool} : ∀ (l : List α) (i : Nat) (x : α), l[i]? = some x → q x = false → (l.eraseIdx i).find? q = l.find? q
  | [], i, x, h, _ => by simp at h
  | a :: l, 0, x, h, hq => by simp at h; subst h; simp [hq]
  | a :: l, i + 1, x, h, hq => by
    rw [List.eraseIdx_cons_succ, List.find?_cons, List.find?_cons, find_erase l i x (by simpa using h) hq]
theorem Dk.size_find (s : Dk) (n : ByteArray) : s.size n = match s.files.find? (fun f => f.name.toList == n.toList) with | some f => f.pages.length | none => 0 := by
  unfold Dk.size
  rw [← find_idx (d := ⟨ByteArray.empty, [], []⟩) s.files]
  show (match s.idx n with | some i => (s.file i).pages.length | none => 0) = _
  unfold Dk.idx
  cases s.files.findIdx? fun f => f.name.toList == n.toList <;> rfl
theorem Dk.drop_size (s : Dk) {n m : ByteArray} (h : m ≠ n) : (s.drop n).size m = s.size m := by
  unfold Dk.drop
  cases hi : s.idx n with
  | none => rfl
  | some i =>
    obtain ⟨f, hf, hfn⟩ := Dk.idx_some hi
    rw [Dk.size_find, Dk.size_find]
    simp only
    rw [find_erase s.files i f hf (by rw [hfn, beq_eq_false_iff_ne]; exact fun e => h (ba_eq e).symm)]
theorem Dk.remove_size (s : Dk) {n m : ByteArray} (h : m ≠ n) : s.size m ≤ (s.remove n).1.size m := by
  unfold Dk.remove
  split
  · exact Nat.le_refl _
  · split
    · exact Nat.le_refl _
    · unfold Dk.step
      split
      · rw [Dk.drop_size _ h]; exact s.change_grows m
      · exact s.change_grows m
theorem Pl.Fit.dropF {s : Pl} (h : s.Fit) (n : ByteArray) : (s.dropF n).1.Fit := by
  unfold Pl.dropF
  split
  · exact h
  · split
    · exact Pl.Fit.out h
    · split
      · exact h
      · refine Pl.Fit.out ?_
        intro f hf
        have hf' : f ∈ s.fs.filter fun f => !(f.name.toList == n.toList) := hf
        rw [List.mem_filter] at hf'
        have hne : f.name ≠ n := fun e => by have := hf'.2; rw [e] at this; simp at this
        exact Nat.lt_of_lt_of_le (h f hf'.1) (s.d.remove_size hne)
theorem Pl.Fit.setD {s : Pl} (h : s.Fit) {d : Dk} (hd : s.d.Grows d) : (s.setD d).Fit := h.keys hd rfl

/-! ### Handles -/

theorem w64_up {x : Int} (h0 : 0 ≤ x) (h1 : x < 1099511627776) : w64 (x + 1) = x + 1 := by unfold w64; exact wrap64 (by omega) (by omega)
theorem Pl.pinAt_next (s : Pl) (i : Nat) (h0 : 0 ≤ s.next) (h1 : s.next < 1099511627776) : (s.pinAt i).next = s.next + 1 := w64_up h0 h1
theorem Pl.take_next (s : Pl) (f : Fr) (h0 : 0 ≤ s.next) (h1 : s.next < 1099511627776) : (s.take f).next = s.next + 1 := w64_up h0 h1
theorem Pl.pin_next {s : Pl} {n : ByteArray} {k : Int} (h0 : 0 ≤ s.next) (h1 : s.next < 1099511627776) : (s.pin n k).1.next ≤ s.next + 1 := by
  unfold Pl.pin
  split
  · show s.next ≤ _; omega
  · split
    · rw [Pl.pinAt_next s _ h0 h1]; omega
    · rcases s.load_cases n k with ⟨e, he⟩ | ⟨e, he⟩ | ⟨f, he, _⟩
      · rw [he]; show (s.met e).next ≤ _; rw [(s.met_d e).2.2.1]; omega
      · rw [he]; show (s.room.1.met e).next ≤ _; rw [(s.room.1.met_d e).2.2.1, s.room_same.2.1]; omega
      · rw [he]; show (s.room.1.take f).next ≤ _; rw [Pl.take_next _ _ (by rw [s.room_same.2.1]; exact h0) (by rw [s.room_same.2.1]; exact h1), s.room_same.2.1]; omega
theorem Pl.fresh_next {s : Pl} {n : ByteArray} (h0 : 0 ≤ s.next) (h1 : s.next < 1099511627776) : (s.fresh n).1.next ≤ s.next + 1 := by
  have hr := s.room_same.2.1
  unfold Pl.fresh
  split
  · show s.next ≤ _; omega
  · split
    · show (s.met _).next ≤ _; rw [(s.met_d _).2.2.1]; omega
    · split
      · show (s.room.1.met _).next ≤ _; rw [(s.room.1.met_d _).2.2.1, hr]; omega
      · split
        · show ((s.room.1.setD _).met _).next ≤ _
          rw [((s.room.1.setD _).met_d _).2.2.1]
          show s.room.1.next ≤ _; rw [hr]; omega
        · show ((s.room.1.setD _).take _).next ≤ _
          rw [Pl.take_next _ _ (by show 0 ≤ s.room.1.next; rw [hr]; exact h0) (by show s.room.1.next < _; rw [hr]; exact h1)]
          show s.room.1.next + 1 ≤ _; rw [hr]; omega
theorem Pl.set_next (s : Pl) (c : Int) (k : UInt8) (b : List UInt8) : (s.set c k b).1.next = s.next := by
  unfold Pl.set
  split
  · rfl
  · split
    · split <;> rfl
    · rfl
theorem Pl.unpin_next (s : Pl) (c : Int) : (s.unpin c).1.next = s.next := by
  unfold Pl.unpin
  split
  · rfl
  · split <;> rfl
theorem Pl.dropF_next (s : Pl) (n : ByteArray) : (s.dropF n).1.next = s.next := by
  unfold Pl.dropF
  split
  · rfl
  · split
    · exact (s.met_d _).2.2.1
    · split
      · rfl
      · exact (((s.forget n).setD _).met_d _).2.2.1

end Go.Proofs.YtbhddkmfhampbaaGreatDoor

/-
  The pool: Drop.
-/
namespace Go.Proofs.YtbhddkmfhampbaaGreatDoor
open Go.MapKept

theorem Drop1_ok {H : Heap} {z : FZ} {K : Bool → Heap → Prop} (hA : FrAt H z.2 z.1) (hK : K (!z.1.pins.isEmpty) H) : pool_Pool_Drop_c1.sp (at0 z.2.p) H K := by
  refine pool_Pool_Drop_c1.of ?_
  unfold pool_Pool_Drop_c1.vc
  simp only [optK_eq]
  refine hA.row.ld (c := cInt .i64) (i := 5) (x := (z.1.pins.length : Int)) rfl ?_
  have e : decide ((z.1.pins.length : Int) > 0) = !z.1.pins.isEmpty := by
    cases z.1.pins with
    | nil => rfl
    | cons a l => simp
  rw [e]; exact hK
theorem IndexDrop_ok {H : Heap} {s : Sl} {l : List FZ} {K : Int → Heap → Prop} (h : SlE EPtr ty_ptr_pool_frame H s (l.map fun z => z.2.p)) (hA : ∀ z ∈ l, FrAt H z.2 z.1) (hl : l.length ≤ 1048576)
    (hK : ∀ r : Int, decide (r ≥ 0) = (l.any fun z => !z.1.pins.isEmpty) → K r H) : slices_IndexFunc_sl_ptr_pool_frame_ptr_pool_frame.sp s H K := by
  refine slices_IndexFunc_sl_ptr_pool_frame_ptr_pool_frame.of ?_
  unfold slices_IndexFunc_sl_ptr_pool_frame_ptr_pool_frame.vc
  have hn := h.n (by decide)
  rw [List.length_map] at hn
  refine loop_upto l.length (fun k x H1 => H = H1 ∧ x = (k : Int) ∧ ∀ z ∈ l.take k, z.1.pins.isEmpty = true) ⟨rfl, rfl, by simp⟩ ?_
  rintro k _ _ next hk ⟨rfl, rfl, hf⟩ hnext
  refine br_mk (fun hc => ?_) (fun hc => ?_)
  · have hlt : k < l.length := by rw [hn] at hc; simpa using hc
    refine ptr_ld h (i := k) (q := l[k].2.p) (by simp [hlt]) rfl fun ad ha => ?_
    refine Drop1_ok (hA _ (List.getElem_mem hlt)) ?_
    cases hs : l[k].1.pins.isEmpty with
    | false =>
      refine br_t rfl (hK _ ?_)
      rw [decide_eq_true (by omega)]
      exact (List.any_eq_true.2 ⟨l[k], List.getElem_mem hlt, by rw [hs]; rfl⟩).symm
    | true =>
      refine br_f rfl (hnext hlt _ _ ⟨rfl, succ64 k (by omega), ?_⟩)
      intro z hz
      rw [List.take_succ_eq_append_getElem hlt] at hz
      rcases List.mem_append.1 hz with q | q
      · exact hf z q
      · simp at q; subst q; exact hs
  · have hge : k = l.length := by rw [hn] at hc; simp at hc; omega
    rw [hge, List.take_of_length_le (Nat.le_refl _)] at hf
    refine hK _ ?_
    have : (l.any fun z => !z.1.pins.isEmpty) = false := by
      rw [List.any_eq_false]
      intro z hz
      rw [hf z hz]; simp
    rw [this]; rfl
theorem ContainsDrop_ok {H : Heap} {s : Sl} {l : List FZ} {K : Bool → Heap → Prop} (h : SlE EPtr ty_ptr_pool_frame H s (l.map fun z => z.2.p)) (hA : ∀ z ∈ l, FrAt H z.2 z.1) (hl : l.length ≤ 1048576)
    (hK : K (l.any fun z => !z.1.pins.isEmpty) H) : slices_ContainsFunc_sl_ptr_pool_frame_ptr_pool_frame.sp s H K := by
  refine slices_ContainsFunc_sl_ptr_pool_frame_ptr_pool_frame.of ?_
  unfold slices_ContainsFunc_sl_ptr_pool_frame_ptr_pool_frame.vc
  exact IndexDrop_ok h hA hl fun r hr => by rw [hr]; exact hK

theorem erase_filter : ∀ {l : List FZ} {i : Nat} {a : FZ}, (∀ (i j : Nat) (z z' : FZ), l[i]? = some z → l[j]? = some z' → z.2.p = z'.2.p → i = j) → l[i]? = some a → l.eraseIdx i = l.filter fun z => !(z.2.p == a.2.p)
  | [], i, a, _, h => by simp at h
  | b :: l, 0, a, hu, h => by
    simp at h; subst h
    rw [List.eraseIdx_cons_zero, List.filter_cons, if_neg (by simp)]
    refine (List.filter_eq_self.2 fun z hz => ?_).symm
    obtain ⟨j, hj⟩ := List.mem_iff_getElem?.1 hz
    have : z.2.p ≠ b.2.p := fun e => by have := hu (j + 1) 0 z b (by simpa using hj) rfl e; omega
    simpa using this
  | b :: l, i + 1, a, hu, h => by
    simp only [List.getElem?_cons_succ] at h
    have hne : b.2.p ≠ a.2.p := fun e => by have := hu 0 (i + 1) b a rfl (by simpa using h) e; omega
    rw [List.eraseIdx_cons_succ, List.filter_cons, if_pos (by simpa using hne)]
    rw [erase_filter (fun i j z z' h1 h2 e => by have := hu (i + 1) (j + 1) z z' (by simpa using h1) (by simpa using h2) e; omega) h]

/-- The frames that are left when some were forgotten. -/
def leftZ (zs w : List FZ) : List FZ := zs.filter fun z => !(w.any fun u => u.2.p == z.2.p)
theorem leftZ_snoc (zs w : List FZ) (a : FZ) : leftZ zs (w ++ [a]) = (leftZ zs w).filter fun z => !(z.2.p == a.2.p) := by
  unfold leftZ
  rw [List.filter_filter]
  refine List.filter_congr fun z _ => ?_
  rw [List.any_append, List.any_cons, List.any_nil, Bool.or_false, Bool.not_or, Bool.and_comm]
  congr 2
  exact Bool.beq_comm

theorem Drop_ok {F : Nat → Prop} {H : Heap} {p dp : Nat} {s : Pl} {n : ByteArray} {K : Int → Heap → Prop} (hg : Gl H) (h : PoolAt F H p dp s)
    (hK : ∀ F' H', PoolAt F' H' p dp (s.dropF n).1 → Step F F' H H' → K (s.dropF n).2 H') : pool_Pool_Drop.sp (at0 p) n H K := by
  have h00 := h
  obtain ⟨x, D, hd, hF⟩ := h
  refine pool_Pool_Drop.of ?_
  unfold pool_Pool_Drop.vc
  simp only [optK_eq]
  refine ready_pool hd.pool ?_
  unfold Pl.dropF at hK
  refine br_mk (fun hw => ?_) (fun hw => ?_)
  · have hw' : s.wrong ≠ 0 := by simpa using hw
    rw [if_pos hw'] at hK
    exact hK F H h00 (.refl _ _)
  have hw' : ¬ s.wrong ≠ 0 := by simpa using hw
  rw [if_neg hw'] at hK
  refine hd.pool.head.ld (c := cPtr) (i := 0) (x := at0 dp) rfl ?_
  refine Len_ok hd.disk ?_
  have fin : ∀ (e : Int) (x' : PG) (D' : Nat → Prop) (H1 : Heap) (t : Pl), PoolD x' D' H1 p dp t → Step (fun b => D b ∨ x.all p b) (fun b => D' b ∨ x'.all p b) H H1 → (∀ F' H', PoolAt F' H' p dp (Pl.out (t, e)).1 → Step F F' H H' → K (Pl.out (t, e)).2 H') →
      pool_Pool_met.sp (at0 p) e H1 fun r H2 => K r H2 := by
    intro e x' D' H1 t h1 S1 hk
    refine met_ok (hd.gl hg S1.mod) h1 fun H2 h2 S2 => ?_
    obtain ⟨F', q1, q2⟩ := h2.out (x := x) (D := D) (F := F) (H := H) hF (S1.trans S2)
    exact hk F' H2 q1 q2
  refine br_mk (fun hz => ?_) (fun hz => ?_)
  · have hz' : (s.d.len n).2 ≠ 0 := by simpa using hz
    rw [if_pos hz'] at hK
    exact fin _ x D H s hd (.refl _ _) hK
  have hz' : ¬ (s.d.len n).2 ≠ 0 := by simpa using hz
  rw [if_neg hz'] at hK
  refine of_ok hd.pool fun sl H1 o1 e1 f1 => ?_
  have hd1 := hd.ext e1
  have hlen1 := o1.n (by decide)
  rw [List.length_map] at hlen1
  have hll : (x.of n).length ≤ 4096 := by
    have h1 := PG.of_pages hd.pool.fs n
    have h2 := s.pagesOf_length n
    rw [← h1, List.length_map] at h2
    have := hd.pool.wf.len; have := hd.pool.wf.most; omega
  have hany : ((x.of n).any fun z => !z.1.pins.isEmpty) = s.fs.any (fun f => f.name.toList == n.toList && !f.pins.isEmpty) := by
    rw [Bool.eq_iff_iff, List.any_eq_true, List.any_eq_true]
    constructor
    · rintro ⟨z, hz, e⟩
      obtain ⟨q1, q2⟩ := PG.of_mem.1 hz
      refine ⟨z.1, by rw [hd.pool.fs]; exact List.mem_map.2 ⟨z, q1, rfl⟩, ?_⟩
      rw [q2, e]; simp
    · rintro ⟨f, hf, e⟩
      rw [hd.pool.fs] at hf
      obtain ⟨z, hz, rfl⟩ := List.mem_map.1 hf
      simp only [Bool.and_eq_true] at e
      exact ⟨z, PG.of_mem.2 ⟨hz, ba_eq (by simpa using e.1)⟩, e.2⟩
  refine ContainsDrop_ok o1 (fun z hz => hd1.pool.frames.each z (PG.of_mem.1 hz).1) (by omega) ?_
  rw [hany]
  cases hb : s.fs.any (fun f => f.name.toList == n.toList && !f.pins.isEmpty) with
  | true =>
    rw [hb, if_pos rfl] at hK
    obtain ⟨F', q1, q2⟩ := hd1.out (x := x) (D := D) (F := F) (H := H) hF (Step.ext e1)
    exact br_t rfl (hK F' H1 q1 q2)
  | false =>
    rw [hb, if_neg (by simp)] at hK
    refine br_f rfl ?_
    have hfree : ∀ z ∈ x.of n, z.1.pins = [] := by
      intro z hz
      rw [hb] at hany
      have := (List.any_eq_false.1 hany) z hz
      simpa using this
    refine loop_upto (x.of n).length (fun k z A => z = (k : Int) ∧ ∃ y, PoolD y D A p dp { s with fs := (leftZ x.zs ((x.of n).take k)).map (·.1) } ∧ y.zs = leftZ x.zs ((x.of n).take k) ∧ Step (fun b => D b ∨ x.all p b) (fun b => D b ∨ y.all p b) H1 A ∧ SlE EPtr ty_ptr_pool_frame A sl ((x.of n).map fun z => z.2.p)) ⟨rfl, x, ?_, ?_, .refl _ _, o1⟩ ?_
    · have e : (leftZ x.zs ((x.of n).take 0)).map (·.1) = s.fs := by
        rw [hd.pool.fs]; unfold leftZ PG.fs
        rw [List.filter_eq_self.2 (fun _ _ => by simp)]
      rw [e]; exact hd1
    · unfold leftZ
      rw [List.filter_eq_self.2 (fun _ _ => by simp)]
    rintro k _ A next hk ⟨rfl, y, hdA, hy, SA, oA⟩ hnext
    have hgA : Gl A := hd1.gl (hg.mod e1 id) SA.mod
    refine br_mk (fun hc => ?_) (fun hc => ?_)
    · have hlt : k < (x.of n).length := by rw [hlen1] at hc; simpa using hc
      have hzk : (x.of n)[k] ∈ x.of n := List.getElem_mem hlt
      obtain ⟨hzx, hzn⟩ := PG.of_mem.1 hzk
      have hzy : (x.of n)[k] ∈ y.zs := by
        rw [hy]
        unfold leftZ
        rw [List.mem_filter]
        refine ⟨hzx, ?_⟩
        rw [Bool.not_eq_true', List.any_eq_false]
        intro u hu e
        obtain ⟨j, hj, rfl⟩ := List.getElem_of_mem hu
        simp only [List.length_take] at hj
        simp only [List.getElem_take, beq_iff_eq] at e
        have hjm : (x.of n)[j] ∈ x.of n := List.getElem_mem (by omega)
        have e2 := hd.pool.frames.ptr (PG.of_mem.1 hjm).1 hzx e
        have hnd : (x.of n).Nodup := by
          have hz : x.zs.Nodup := by
            have := hd.pool.wf.keys
            rw [hd.pool.fs] at this
            unfold PG.fs at this
            rw [List.map_map] at this
            exact nodup_of_map _ this
          unfold PG.of
          exact (List.mergeSort_perm _ _).symm.nodup (hz.filter _)
        have := (List.getElem_inj hnd).1 e2
        omega
      obtain ⟨i, hi⟩ := List.mem_iff_getElem?.1 hzy
      refine ptr_ld oA (i := k) (q := (x.of n)[k].2.p) (by simp [hlt]) rfl fun ad ha => ?_
      refine hdA.pool.head.ld (c := cMap) (i := 2) (x := some y.mf) rfl ?_
      simp only [optK_eq]
      refine FrAt.at_ld (hdA.pool.frames.each _ hzy) ?_
      refine del_ok hgA hdA hi (hfree _ hzk) fun ef' v A2 h2 S2 m2 => ?_
      have e2 : y.zs.eraseIdx i = leftZ x.zs ((x.of n).take (k + 1)) := by
        rw [List.take_succ_eq_append_getElem hlt, leftZ_snoc, ← hy]
        refine erase_filter (fun a c z z' q1 q2 e => ?_) hi
        by_cases hac : a = c
        · exact hac
        · exact absurd (.inl e) (hdA.pool.frames.apart a c z z' q1 q2 hac z.2.p (.inl rfl))
      refine hnext hlt _ _ ⟨succ64 k (by omega), _, ?_, e2, SA.trans S2, ?_⟩
      · have e3 : (Pl.drop { s with fs := (leftZ x.zs ((x.of n).take k)).map (·.1) } i) = { s with fs := (leftZ x.zs ((x.of n).take (k + 1))).map (·.1) } := by
          unfold Pl.drop
          simp only
          rw [← map_erase, ← e2, hy]
        rw [← e3]; exact h2
      · refine oA.keep fun b hb hl => m2.same b hl ?_
        intro e
        obtain ⟨c, q⟩ := oA.obj b hb
        rw [e, hdA.pool.frames.fmap.obj] at q; cases q
    · have hge : k = (x.of n).length := by rw [hlen1] at hc; simp at hc; omega
      have e4 : ({ s with fs := (leftZ x.zs ((x.of n).take k)).map (·.1) } : Pl) = s.forget n := by
        unfold Pl.forget
        rw [hge, List.take_of_length_le (Nat.le_refl _), hd.pool.fs]
        unfold leftZ PG.fs
        rw [List.filter_map]
        congr 2
        refine List.filter_congr fun z hz => ?_
        show (!_) = !(z.1.name.toList == n.toList)
        congr 1
        rw [Bool.eq_iff_iff, List.any_eq_true, beq_iff_eq]
        constructor
        · rintro ⟨u, hu, e⟩
          obtain ⟨q1, q2⟩ := PG.of_mem.1 hu
          have := hd.pool.frames.ptr q1 hz (by simpa using e)
          rw [← this, q2]
        · intro e
          exact ⟨z, PG.of_mem.2 ⟨hz, ba_eq e⟩, by simp⟩
      rw [e4] at hdA
      refine hdA.pool.head.ld (c := cPtr) (i := 0) (x := at0 dp) rfl ?_
      refine Remove_ok hdA.disk fun D2 H2 a2 S2 => ?_
      obtain ⟨q1, q2⟩ := hdA.stepD hgA a2 S2
      exact fin _ y D2 H2 _ q1 ((SA.trans q2).ahead e1) hK

end Go.Proofs.YtbhddkmfhampbaaGreatDoor

/-
  The pool in plain words, over one file on a disk that stays up: what the pages tell.
-/
namespace Go.Proofs.YtbhddkmfhampbaaGreatDoor

/-- A disk that is up, of one file with these pages. -/
structure Live (d : Dk) (n : ByteArray) (pg : List Pg) (q : Nat) : Prop where
  up : d.down = false
  calm : d.crash = none
  file : ∃ f, d.files = [f] ∧ f.name = n ∧ f.pages = pg
  quota : d.quota = q

theorem Live.idx {d : Dk} {n : ByteArray} {pg : List Pg} {q : Nat} (h : Live d n pg q) : d.idx n = some 0 := by
  obtain ⟨f, h1, h2, _⟩ := h.file
  unfold Dk.idx; rw [h1]; simp [h2]
theorem Live.at {d : Dk} {n : ByteArray} {pg : List Pg} {q : Nat} (h : Live d n pg q) : ∃ f, d.files[0]? = some f ∧ f.name = n ∧ f.pages = pg ∧ d.files = [f] := by
  obtain ⟨f, h1, h2, h3⟩ := h.file
  exact ⟨f, by rw [h1]; rfl, h2, h3, h1⟩
theorem Live.pages {d : Dk} {n : ByteArray} {pg : List Pg} {q : Nat} (h : Live d n pg q) : (d.file 0).pages = pg := by
  obtain ⟨f, h1, _, h3, _⟩ := h.at
  rw [Dk.file_eq h1, h3]
theorem Live.len {d : Dk} {n : ByteArray} {pg : List Pg} {q : Nat} (h : Live d n pg q) : d.len n = (pg.length, 0) := by
  unfold Dk.len Dk.open
  rw [if_neg (by rw [h.up]; simp), h.idx]
  simp only [h.pages]
theorem Live.size {d : Dk} {n : ByteArray} {pg : List Pg} {q : Nat} (h : Live d n pg q) : d.size n = pg.length := by
  unfold Dk.size; rw [h.idx]; simp only [h.pages]
theorem Live.used {d : Dk} {n : ByteArray} {pg : List Pg} {q : Nat} (h : Live d n pg q) : d.used = pg.length := by
  obtain ⟨f, _, _, h3, h4⟩ := h.at
  unfold Dk.used; rw [h4]; simp [h3]
theorem Live.read {d : Dk} {n : ByteArray} {pg : List Pg} {q : Nat} (h : Live d n pg q) {k : Nat} {b : Pg} (hk : pg[k]? = some b) : d.read n k = (b.1, 0) := by
  unfold Dk.read Dk.open
  rw [if_neg (by rw [h.up]; simp), h.idx]
  simp only [h.pages]
  rw [if_neg (by omega), Int.toNat_natCast, hk]
theorem Live.step {d : Dk} {n : ByteArray} {pg : List Pg} {q : Nat} (h : Live d n pg q) (f : Dk → Dk) : d.step f = (f { d with ops := w64 (d.ops + 1) }, 0) := by
  have : d.change = ({ d with ops := w64 (d.ops + 1) }, 0) := by unfold Dk.change; rw [h.calm]
  unfold Dk.step; rw [this, if_pos rfl]
/-- A page is written. -/
def putAt (pg : List Pg) (k : Nat) (b : Pg) : List Pg := putP pg ⟨0, k, b⟩
theorem putAt_length (pg : List Pg) (k : Nat) (b : Pg) : (putAt pg k b).length = max pg.length (k + 1) := putP_length _ _
theorem putAt_get {pg : List Pg} {k : Nat} {b : Pg} (hk : k ≤ pg.length) (j : Nat) : (putAt pg k b)[j]? = if j = k then some b else pg[j]? := by
  unfold putAt putP
  simp only
  by_cases e : j = k
  · subst e
    rw [if_pos rfl, List.getElem?_set, if_pos rfl, if_pos (by simp; omega)]
  · rw [if_neg e, List.getElem?_set, if_neg (fun q => e q.symm)]
    by_cases hj : j < pg.length
    · rw [List.getElem?_append_left hj]
    · rw [List.getElem?_append_right (by omega), List.getElem?_eq_none (by simp; omega), List.getElem?_eq_none (by omega)]
theorem Live.write {d : Dk} {n : ByteArray} {pg : List Pg} {q : Nat} (h : Live d n pg q) {k : Nat} {b : List UInt8} (hb : b.length = 512) (hk : k ≤ pg.length) (hq : k = pg.length → pg.length < q) :
    (d.write n k b).2 = 0 ∧ Live (d.write n k b).1 n (putAt pg k ⟨b, hb⟩) q ∧ (d.write n k b).1.ops = w64 (d.ops + 1) := by
  obtain ⟨f, h1, h2, h3, h4⟩ := h.at
  have e : d.write n k b = d.step fun t => (t.addW 0 ⟨t.next, k, ⟨b, hb⟩⟩).setMost (max t.most (t.addW 0 ⟨t.next, k, ⟨b, hb⟩⟩).used) := by
    unfold Dk.write
    rw [if_neg (by rw [h.up]; simp), dif_pos hb, h.idx]
    simp only [h.pages]
    rw [if_neg (by omega), if_neg (by rw [h.used, h.quota]; rintro ⟨q1, q2⟩; have := hq (by omega); omega), Int.toNat_natCast]
  rw [e, h.step]
  refine ⟨rfl, ⟨h.up, h.calm, ⟨{ f with log := f.log ++ [⟨d.next, k, ⟨b, hb⟩⟩] }, ?_, h2, ?_⟩, h.quota⟩, rfl⟩
  · show d.files.modify 0 _ = _
    rw [h4]; rfl
  · rw [Fl.addW_pages, h3]; rfl
theorem Live.sync {d : Dk} {n : ByteArray} {pg : List Pg} {q : Nat} (h : Live d n pg q) :
    (d.sync n).2 = 0 ∧ Live (d.sync n).1 n pg q ∧ (d.sync n).1.ops = w64 (d.ops + 1) ∧ (∃ f, (d.sync n).1.files = [f] ∧ f.name = n ∧ f.synced = pg ∧ f.log = []) := by
  obtain ⟨f, h1, h2, h3, h4⟩ := h.at
  have e : d.sync n = d.step fun t => t.upd 0 fun f => { f with synced := f.pages, log := [] } := by
    unfold Dk.sync
    rw [if_neg (by rw [h.up]; simp), h.idx]
  rw [e, h.step]
  have hf : ({ d with ops := w64 (d.ops + 1) } : Dk).upd 0 (fun f => { f with synced := f.pages, log := [] }) = { d with files := [{ f with synced := f.pages, log := [] }], ops := w64 (d.ops + 1) } := by
    unfold Dk.upd
    simp only [h4]
    rfl
  rw [hf]
  exact ⟨rfl, ⟨h.up, h.calm, ⟨_, rfl, h2, by simp [Fl.pages]; exact h3⟩, h.quota⟩, rfl, ⟨_, rfl, h2, h3, rfl⟩⟩

/-! ### A pool over such a disk -/

structure Told (p : Pl) (n : ByteArray) (N q : Nat) (T : Nat → UInt8 × List UInt8) (pg : List Pg) : Prop where
  wrong : p.wrong = 0
  disk : Live p.d n pg q
  len : pg.length = N
  mine : ∀ f ∈ p.fs, f.name = n ∧ f.page < N ∧ T f.page = (f.kind, f.b)
  rest : ∀ (k : Nat) (b : Pg), pg[k]? = some b → (∀ f ∈ p.fs, f.page = k → f.dirty = false) → openP b.1 = some (T k)

theorem Told.fit {p : Pl} {n : ByteArray} {N q : Nat} {T : Nat → UInt8 × List UInt8} {pg : List Pg} (h : Told p n N q T pg) : p.Fit := by
  intro f hf
  obtain ⟨h1, h2, _⟩ := h.mine f hf
  rw [h1, h.disk.size, h.len]; exact h2
theorem Told.inj {p : Pl} {n : ByteArray} {N q : Nat} {T : Nat → UInt8 × List UInt8} {pg : List Pg} (h : Told p n N q T pg) (hw : p.WF) {i j : Nat} {f g : Fr} (hi : p.fs[i]? = some f) (hj : p.fs[j]? = some g) (e : f.page = g.page) : i = j :=
  key_inj hw.keys hi hj ((h.mine f (List.mem_of_getElem? hi)).1.trans (h.mine g (List.mem_of_getElem? hj)).1.symm) e
theorem Told.put {p : Pl} {n : ByteArray} {N q : Nat} {T : Nat → UInt8 × List UInt8} {pg : List Pg} (h : Told p n N q T pg) (hw : p.WF) {i : Nat} {f : Fr} (hf : p.fs[i]? = some f) :
    (p.put i).2 = 0 ∧ (p.put i).1.fs = p.fs.modify i Fr.clean ∧ (p.put i).1.d.ops = w64 (p.d.ops + 1) ∧ ∃ pg', Told (p.put i).1 n N q T pg' := by
  have hfm := List.mem_of_getElem? hf
  obtain ⟨h1, h2, h3⟩ := h.mine f hfm
  have hb := hw.room f hfm
  have hs : f.sealF.length = 512 := sealP_length hb
  obtain ⟨w1, w2, w3⟩ := h.disk.write (k := f.page) hs (by rw [h.len]; omega) (by rw [h.len]; omega)
  have e : p.put i = ((p.setD (p.d.write f.name f.page f.sealF).1).turn i Fr.clean, 0) := by
    unfold Pl.put; rw [Pl.frame_eq hf, if_pos (by rw [h1]; exact w1)]
  rw [e, h1]
  refine ⟨rfl, rfl, w3, putAt pg f.page ⟨f.sealF, hs⟩, h.wrong, w2, ?_, ?_, ?_⟩
  · rw [putAt_length, h.len]; omega
  · intro g hg
    have hg : g ∈ p.fs.modify i Fr.clean := hg
    rcases mem_modify hf hg with r | r
    · exact h.mine g r
    · subst r; exact h.mine f hfm
  · intro k b hk hcl
    rw [putAt_get (by rw [h.len]; omega)] at hk
    split at hk
    · rename_i e; cases hk; subst e
      rw [h3]; exact openP_sealP hb
    · rename_i hne
      refine h.rest k b hk fun g hg hgk => hcl g ?_ hgk
      show g ∈ p.fs.modify i Fr.clean
      obtain ⟨j, hj⟩ := List.mem_iff_getElem?.1 hg
      have hij : i ≠ j := by
        rintro rfl
        rw [hf] at hj; cases hj; exact hne hgk.symm
      exact List.mem_of_getElem? (by rw [modify_other hij]; exact hj)
theorem Told.erase {p : Pl} {n : ByteArray} {N q : Nat} {T : Nat → UInt8 × List UInt8} {pg : List Pg} (h : Told p n N q T pg) {i : Nat} {f : Fr} (hf : p.fs[i]? = some f) (hd : f.dirty = false) : Told (p.drop i) n N q T pg := by
  refine ⟨h.wrong, h.disk, h.len, fun g hg => h.mine g (List.mem_of_mem_eraseIdx hg), fun k b hk hcl => h.rest k b hk fun g hg hgk => ?_⟩
  obtain ⟨j, hj⟩ := List.mem_iff_getElem?.1 hg
  by_cases e : j = i
  · subst e; rw [hf] at hj; cases hj; exact hd
  · exact hcl g (mem_erase.2 ⟨j, e, hj⟩) hgk
theorem modify_erase {α : Type} (u : α → α) : ∀ (l : List α) (i : Nat), (l.modify i u).eraseIdx i = l.eraseIdx i
  | [], i => by simp
  | a :: l, 0 => by simp
  | a :: l, i + 1 => by simp [modify_erase u l i]

theorem Pl.room_free {p : Pl} (h : p.fs.length < p.most) : p.room = (p, 0) := by unfold Pl.room; rw [if_pos h]
theorem Pl.best_none_of {p : Pl} (h : ∀ f ∈ p.fs, f.pins ≠ []) : p.best = none := by
  cases hb : p.best with
  | none => rfl
  | some i =>
    obtain ⟨f, h1, h2, _⟩ := Pl.best_some hb
    exact absurd h2 (h f (List.mem_of_getElem? h1))
theorem Pl.room_full {p : Pl} (h : ¬ p.fs.length < p.most) (hp : ∀ f ∈ p.fs, f.pins ≠ []) : p.room = (p, 31) := by
  unfold Pl.room; rw [if_neg h, Pl.best_none_of hp]
/-- Room is made: the frame that is given up is one that none holds. -/
theorem Told.make {p : Pl} {n : ByteArray} {N q : Nat} {T : Nat → UInt8 × List UInt8} {pg : List Pg} (h : Told p n N q T pg) (hw : p.WF) (hl : ¬ p.fs.length < p.most) {g : Fr} (hg : g ∈ p.fs) (hgp : g.pins = []) :
    ∃ i f pg', p.fs[i]? = some f ∧ f.pins = [] ∧ p.room.2 = 0 ∧ p.room.1.fs = p.fs.eraseIdx i ∧ Told p.room.1 n N q T pg' := by
  cases hb : p.best with
  | none => exact absurd hgp (Pl.best_none hb g hg)
  | some i =>
    obtain ⟨f, h1, h2, _⟩ := Pl.best_some hb
    have e : p.room = if (p.frame i).dirty then (if (p.put i).2 = 0 then ((p.put i).1.drop i, 0) else p.put i) else (p.drop i, 0) := by
      unfold Pl.room; rw [if_neg hl, hb]
    rw [e, Pl.frame_eq h1]
    cases hd : f.dirty with
    | true =>
      obtain ⟨w1, w2, _, pg', w4⟩ := h.put hw h1
      rw [if_pos rfl, if_pos w1]
      refine ⟨i, f, pg', h1, h2, rfl, ?_, w4.erase (f := f.clean) (by rw [w2]; exact modify_same h1) rfl⟩
      show (p.put i).1.fs.eraseIdx i = _
      rw [w2, modify_erase]
    | false =>
      rw [if_neg (by simp)]
      exact ⟨i, f, pg, h1, h2, rfl, rfl, h.erase h1 hd⟩
/-- Room, whichever way. -/
theorem Told.roomy {p : Pl} {n : ByteArray} {N q : Nat} {T : Nat → UInt8 × List UInt8} {pg : List Pg} (h : Told p n N q T pg) (hw : p.WF) (hg : p.fs.length < p.most ∨ ∃ g ∈ p.fs, g.pins = []) :
    p.room.2 = 0 ∧ (∃ pg', Told p.room.1 n N q T pg') ∧ (∀ g ∈ p.room.1.fs, g ∈ p.fs) ∧ (∀ g ∈ p.fs, g.pins ≠ [] → g ∈ p.room.1.fs) := by
  by_cases hl : p.fs.length < p.most
  · rw [Pl.room_free hl]; exact ⟨rfl, ⟨pg, h⟩, fun _ q => q, fun _ q _ => q⟩
  · obtain ⟨g, hgm, hgp⟩ := hg.resolve_left hl
    obtain ⟨i, f, pg', h1, h2, h3, h4, h5⟩ := h.make hw hl hgm hgp
    refine ⟨h3, ⟨pg', h5⟩, fun x hx => by rw [h4] at hx; exact List.mem_of_mem_eraseIdx hx, fun x hx hxp => ?_⟩
    rw [h4]
    obtain ⟨j, hj⟩ := List.mem_iff_getElem?.1 hx
    refine mem_erase.2 ⟨j, ?_, hj⟩
    rintro rfl
    rw [h1] at hj; cases hj; exact hxp h2

theorem modify_last {α : Type} (l : List α) (a : α) (u : α → α) : (l ++ [a]).modify l.length u = l ++ [u a] := by
  have ha : (l ++ [a])[l.length]? = some a := by simp
  rw [modify_set ha]; simp
theorem Pl.take_fs (p : Pl) (f : Fr) : (p.take f).fs = p.fs ++ [Fr.pin p.next f] := modify_last p.fs f _

def setT (T : Nat → UInt8 × List UInt8) (k : Nat) (v : UInt8 × List UInt8) : Nat → UInt8 × List UInt8 := fun j => if j = k then v else T j
theorem setT_same (T : Nat → UInt8 × List UInt8) (k : Nat) (v : UInt8 × List UInt8) : setT T k v k = v := if_pos rfl
theorem setT_other {T : Nat → UInt8 × List UInt8} {k j : Nat} {v : UInt8 × List UInt8} (h : j ≠ k) : setT T k v j = T j := if_neg h

/-- A frame that was read is held. -/
theorem Told.take {p : Pl} {n : ByteArray} {N q : Nat} {T : Nat → UInt8 × List UInt8} {pg : List Pg} (h : Told p n N q T pg) {f : Fr} (hn : f.name = n) (hp : f.page < N) (hT : T f.page = (f.kind, f.b)) (hno : ∀ g ∈ p.fs, g.page ≠ f.page) (hd : f.dirty = false) : Told (p.take f) n N q T pg := by
  refine ⟨h.wrong, h.disk, h.len, fun g hg => ?_, fun k b hk hcl => h.rest k b hk fun g hg hgk => hcl g ?_ hgk⟩
  · rw [Pl.take_fs] at hg
    rcases List.mem_append.1 hg with r | r
    · exact h.mine g r
    · simp at r; subst r; exact ⟨hn, hp, hT⟩
  · rw [Pl.take_fs]; exact List.mem_append_left _ hg

/-- A page more. -/
theorem Told.fresh {p : Pl} {n : ByteArray} {N q : Nat} {T : Nat → UInt8 × List UInt8} {pg : List Pg} (h : Told p n N q T pg) (hw : p.WF) (hg : p.fs.length < p.most ∨ ∃ g ∈ p.fs, g.pins = []) (hN : N < q) :
    (p.fresh n).2 = (p.next, (N : Int), 0) ∧ (p.fresh n).1.fs = p.room.1.fs ++ [⟨n, N, 0, [], false, [p.next], 0⟩] ∧ (p.fresh n).1.next = w64 (p.next + 1) ∧ (p.fresh n).1.most = p.most ∧ (p.fresh n).1.tick = p.tick ∧
    (p.fresh n).1.d.ops = w64 (p.room.1.d.ops + 1) ∧ ∃ pg', Told (p.fresh n).1 n (N + 1) q (setT T N (0, [])) pg' := by
  obtain ⟨h1, ⟨pg1, h2⟩, h3, _⟩ := h.roomy hw hg
  have hs : (sealP 0 []).length = 512 := sealP_length (by simp)
  obtain ⟨w1, w2, w3⟩ := h2.disk.write (k := N) hs (by rw [h2.len]; omega) (by rw [h2.len]; intro _; exact hN)
  have hrs := p.room_same
  have hlen : p.d.len n = (N, 0) := by rw [h.disk.len, h.len]
  have e : p.fresh n = ((p.room.1.setD (p.room.1.d.write n (N : Int) (sealP 0 [])).1).take ⟨n, N, 0, [], false, [], 0⟩, p.room.1.next, (N : Int), 0) := by
    unfold Pl.fresh
    rw [if_neg (by rw [h.wrong]; simp), hlen]
    simp only
    rw [if_neg (by simp), if_neg (by rw [h1]; simp), if_neg (by rw [w1]; simp)]
  rw [e]
  have hnx : (p.room.1.setD (p.room.1.d.write n (N : Int) (sealP 0 [])).1).next = p.next := hrs.2.1
  have ht : Told (p.room.1.setD (p.room.1.d.write n (N : Int) (sealP 0 [])).1) n (N + 1) q (setT T N (0, [])) (putAt pg1 N ⟨sealP 0 [], hs⟩) := by
    refine ⟨h2.wrong, w2, ?_, fun g hgm => ?_, fun k b hk hcl => ?_⟩
    · rw [putAt_length, h2.len]; omega
    · obtain ⟨a1, a2, a3⟩ := h2.mine g hgm
      exact ⟨a1, by omega, by rw [setT_other (by omega)]; exact a3⟩
    · rw [putAt_get (by rw [h2.len]; omega)] at hk
      split at hk
      · rename_i ek; cases hk; subst ek
        rw [setT_same]; exact openP_sealP (by simp)
      · rename_i ek
        rw [setT_other ek]
        exact h2.rest k b hk hcl
  refine ⟨by rw [hrs.2.1], ?_, ?_, hrs.1, hrs.2.2.1, w3, _, ht.take (f := ⟨n, N, 0, [], false, [], 0⟩) rfl (Nat.lt_succ_self _) (setT_same _ _ _) (fun g hgm => ?_) rfl⟩
  · rw [Pl.take_fs, hnx]; rfl
  · show w64 ((p.room.1.setD (p.room.1.d.write n (N : Int) (sealP 0 [])).1).next + 1) = _
    rw [hnx]
  · have := (h2.mine g hgm).2.1
    simp only; omega
theorem Told.fresh_full {p : Pl} {n : ByteArray} {N q : Nat} {T : Nat → UInt8 × List UInt8} {pg : List Pg} (h : Told p n N q T pg) (hl : ¬ p.fs.length < p.most) (hp : ∀ f ∈ p.fs, f.pins ≠ []) : p.fresh n = (p, 0, 0, 31) := by
  unfold Pl.fresh
  rw [if_neg (by rw [h.wrong]; simp), h.disk.len]
  simp only
  rw [if_neg (by simp), Pl.room_full hl hp, if_pos (by simp)]
  rfl

/-- A frame's handles are turned, or when it was left. -/
theorem Told.turn {p p' : Pl} {n : ByteArray} {N q : Nat} {T : Nat → UInt8 × List UInt8} {pg : List Pg} (h : Told p n N q T pg) {i : Nat} {f : Fr} {u : Fr → Fr} (hf : p.fs[i]? = some f) (hd : p'.d = p.d) (hw : p'.wrong = p.wrong) (hfs : p'.fs = p.fs.modify i u)
    (hu : (u f).name = f.name ∧ (u f).page = f.page ∧ (u f).kind = f.kind ∧ (u f).b = f.b ∧ (u f).dirty = f.dirty) : Told p' n N q T pg := by
  obtain ⟨u1, u2, u3, u4, u5⟩ := hu
  refine ⟨by rw [hw]; exact h.wrong, by rw [hd]; exact h.disk, h.len, fun g hg => ?_, fun k b hk hcl => h.rest k b hk fun g hg hgk => ?_⟩
  · rw [hfs] at hg
    rcases mem_modify hf hg with r | r
    · exact h.mine g r
    · subst r; rw [u1, u2, u3, u4]; exact h.mine f (List.mem_of_getElem? hf)
  · obtain ⟨j, hj⟩ := List.mem_iff_getElem?.1 hg
    by_cases e : i = j
    · subst e
      rw [hf] at hj; cases hj
      rw [← u5]
      exact hcl (u f) (by rw [hfs]; exact List.mem_of_getElem? (modify_same hf)) (by rw [u2]; exact hgk)
    · exact hcl g (by rw [hfs]; exact List.mem_of_getElem? (by rw [modify_other e]; exact hj)) hgk
theorem Told.pin_in {p : Pl} {n : ByteArray} {N q : Nat} {T : Nat → UInt8 × List UInt8} {pg : List Pg} (h : Told p n N q T pg) {k : Nat} {i : Nat} {f : Fr} (hi : p.find n k = some i) (hf : p.fs[i]? = some f) :
    p.pin n k = (p.pinAt i, p.next, 0) ∧ Told (p.pinAt i) n N q T pg := by
  refine ⟨?_, h.turn hf rfl rfl rfl ⟨rfl, rfl, rfl, rfl, rfl⟩⟩
  unfold Pl.pin
  rw [if_neg (by rw [h.wrong]; simp), hi]
theorem Told.pin_out {p : Pl} {n : ByteArray} {N q : Nat} {T : Nat → UInt8 × List UInt8} {pg : List Pg} (h : Told p n N q T pg) (hw : p.WF) {k : Nat} (hi : p.find n k = none) (hk : k < N) (hg : p.fs.length < p.most ∨ ∃ g ∈ p.fs, g.pins = []) :
    (p.pin n k).2 = (p.next, 0) ∧ (p.pin n k).1.fs = p.room.1.fs ++ [⟨n, k, (T k).1, (T k).2, false, [p.next], 0⟩] ∧ (p.pin n k).1.next = w64 (p.next + 1) ∧ (p.pin n k).1.most = p.most ∧ ∃ pg', Told (p.pin n k).1 n N q T pg' := by
  obtain ⟨h1, ⟨pg1, h2⟩, h3, _⟩ := h.roomy hw hg
  have hrs := p.room_same
  have hlen : p.d.len n = (N, 0) := by rw [h.disk.len, h.len]
  have hno : ∀ g ∈ p.room.1.fs, g.page ≠ k := fun g hgm e => Pl.find_none hi g (h3 g hgm) (h2.mine g hgm).1 (by omega)
  obtain ⟨b, hb⟩ : ∃ b, pg1[k]? = some b := ⟨_, List.getElem?_eq_getElem (by rw [h2.len]; exact hk)⟩
  have ho := h2.rest k b hb fun g hgm e => absurd e (hno g hgm)
  have el : p.load n k = (p.room.1, some ⟨n, k, (T k).1, (T k).2, false, [], 0⟩, 0) := by
    unfold Pl.load
    rw [hlen]
    simp only
    rw [if_neg (by simp), if_neg (by omega), if_neg (by rw [h1]; simp), h2.disk.read hb]
    simp only
    rw [if_neg (by simp), ho]
    simp
  have e : p.pin n k = (p.room.1.take ⟨n, k, (T k).1, (T k).2, false, [], 0⟩, p.room.1.next, 0) := by
    unfold Pl.pin
    rw [if_neg (by rw [h.wrong]; simp), hi, el]
  rw [e]
  refine ⟨by rw [hrs.2.1], ?_, ?_, hrs.1, pg1, h2.take (f := ⟨n, k, (T k).1, (T k).2, false, [], 0⟩) rfl hk rfl hno rfl⟩
  · rw [Pl.take_fs, hrs.2.1]; rfl
  · show w64 (p.room.1.next + 1) = _
    rw [hrs.2.1]
theorem Told.pin_full {p : Pl} {n : ByteArray} {N q : Nat} {T : Nat → UInt8 × List UInt8} {pg : List Pg} (h : Told p n N q T pg) {k : Nat} (hi : p.find n k = none) (hk : k < N) (hl : ¬ p.fs.length < p.most) (hp : ∀ f ∈ p.fs, f.pins ≠ []) : p.pin n k = (p, 0, 31) := by
  have hlen : p.d.len n = (N, 0) := by rw [h.disk.len, h.len]
  have el : p.load n k = (p, none, 31) := by
    unfold Pl.load
    rw [hlen]
    simp only
    rw [if_neg (by simp), if_neg (by omega), Pl.room_full hl hp, if_pos (by simp)]
  unfold Pl.pin
  rw [if_neg (by rw [h.wrong]; simp), hi, el]
  rfl
theorem Told.get {p : Pl} {n : ByteArray} {N q : Nat} {T : Nat → UInt8 × List UInt8} {pg : List Pg} (h : Told p n N q T pg) (hw : p.WF) {f : Fr} {x : Int} (hf : f ∈ p.fs) (hx : x ∈ f.pins) : p.get x = ((T f.page).1, (T f.page).2, 0) := by
  obtain ⟨i, hi⟩ := List.mem_iff_getElem?.1 hf
  unfold Pl.get
  rw [if_neg (by rw [h.wrong]; simp), Pl.held_eq hw hi hx]
  simp only [Pl.frame_eq hi, (h.mine f hf).2.2]
theorem Told.set {p : Pl} {n : ByteArray} {N q : Nat} {T : Nat → UInt8 × List UInt8} {pg : List Pg} (h : Told p n N q T pg) (hw : p.WF) {i : Nat} {f : Fr} {x : Int} (hf : p.fs[i]? = some f) (hx : x ∈ f.pins) {k : UInt8} {b : List UInt8} (hb : b.length ≤ 504) :
    p.set x k b = (p.turn i (Fr.set k b), 0) ∧ Told (p.turn i (Fr.set k b)) n N q (setT T f.page (k, b)) pg := by
  constructor
  · unfold Pl.set
    rw [if_neg (by rw [h.wrong]; simp), Pl.held_eq hw hf hx]
    simp only
    rw [if_neg (by omega)]
  · refine ⟨h.wrong, h.disk, h.len, fun g hg => ?_, fun j c hj hcl => ?_⟩
    · have hg : g ∈ p.fs.modify i (Fr.set k b) := hg
      rw [modify_set hf] at hg
      rcases mem_set' hg with ⟨j, hji, hj⟩ | r
      · have hne : g.page ≠ f.page := fun e => hji (h.inj hw hj hf e)
        rw [setT_other hne]
        exact h.mine g (List.mem_of_getElem? hj)
      · subst r
        obtain ⟨a1, a2, _⟩ := h.mine f (List.mem_of_getElem? hf)
        exact ⟨a1, a2, setT_same _ _ _⟩
    · by_cases e : j = f.page
      · subst e
        have := hcl (Fr.set k b f) (List.mem_of_getElem? (modify_same hf)) rfl
        cases this
      · rw [setT_other e]
        refine h.rest j c hj fun g hg hgj => hcl g ?_ hgj
        obtain ⟨a, ha⟩ := List.mem_iff_getElem?.1 hg
        have : i ≠ a := by
          rintro rfl
          rw [hf] at ha; cases ha; exact e hgj.symm
        exact List.mem_of_getElem? (by show (p.fs.modify i _)[a]? = _; rw [modify_other this]; exact ha)
theorem Told.unpin {p : Pl} {n : ByteArray} {N q : Nat} {T : Nat → UInt8 × List UInt8} {pg : List Pg} (h : Told p n N q T pg) (hw : p.WF) {i : Nat} {f : Fr} {x : Int} (hf : p.fs[i]? = some f) (hx : x ∈ f.pins) :
    p.unpin x = ({ p with fs := p.fs.modify i (Fr.unpin x (w64 (p.tick + 1))), tick := w64 (p.tick + 1) }, 0) ∧ Told (p.unpin x).1 n N q T pg := by
  have e : p.unpin x = ({ p with fs := p.fs.modify i (Fr.unpin x (w64 (p.tick + 1))), tick := w64 (p.tick + 1) }, 0) := by
    unfold Pl.unpin
    rw [if_neg (by rw [h.wrong]; simp), Pl.held_eq hw hf hx]
  refine ⟨e, ?_⟩
  rw [e]
  exact h.turn hf rfl rfl rfl ⟨rfl, rfl, rfl, rfl, rfl⟩

/-! ### Flush -/

theorem Told.flushL {n : ByteArray} {N q : Nat} {T : Nat → UInt8 × List UInt8} : ∀ (l : List Nat) {p : Pl} {pg : List Pg}, Told p n N q T pg → p.WF → (∀ f ∈ p.fs, f.dirty = true → f.page ∈ l) →
    (Pl.flushL n l p).2 = 0 ∧ (∃ pg', Told (Pl.flushL n l p).1 n N q T pg') ∧ (∀ f ∈ (Pl.flushL n l p).1.fs, f.dirty = false) ∧ (Pl.flushL n l p).1.fs = p.fs.map Fr.clean ∧ (Pl.flushL n l p).1.peak = p.peak ∧ (Pl.flushL n l p).1.most = p.most
  | [], p, pg, h, hw, hd => by
    have hcl : ∀ f ∈ p.fs, f.dirty = false := fun f hf => by
      cases e : f.dirty with
      | false => rfl
      | true => have := hd f hf e; cases this
    refine ⟨rfl, ⟨pg, h⟩, hcl, ?_, rfl, rfl⟩
    show p.fs = p.fs.map Fr.clean
    have : p.fs.map Fr.clean = p.fs.map id := List.map_congr_left fun f hf => by
      have := hcl f hf
      cases f; simp only [Fr.clean, id] at *; rw [this]
    rw [this, List.map_id]
  | k :: l, p, pg, h, hw, hd => by
    unfold Pl.flushL
    have skip : (∀ f ∈ p.fs, f.page = k → f.dirty = false) → ∀ f ∈ p.fs, f.dirty = true → f.page ∈ l := by
      intro hk f hf e
      rcases List.mem_cons.1 (hd f hf e) with r | r
      · rw [hk f hf r] at e; cases e
      · exact r
    cases hi : p.find n k with
    | none =>
      exact Told.flushL l h hw (skip fun f hf e => absurd (by omega) (Pl.find_none hi f hf (h.mine f hf).1))
    | some i =>
      obtain ⟨f, hf, hfn, hfp⟩ := Pl.find_some hi
      have hfp' : f.page = k := by omega
      simp only [Pl.frame_eq hf]
      cases hdt : f.dirty with
      | false =>
        rw [if_neg (by simp)]
        refine Told.flushL l h hw (skip fun g hg e => ?_)
        obtain ⟨j, hj⟩ := List.mem_iff_getElem?.1 hg
        have := h.inj hw hj hf (by omega)
        subst this
        rw [hf] at hj; cases hj; exact hdt
      | true =>
        obtain ⟨w1, w2, w3, pg', w4⟩ := h.put hw hf
        rw [if_pos rfl, if_pos w1]
        have hsame := p.put_same i
        obtain ⟨r1, r2, r3, r4, r5, r6⟩ := Told.flushL l w4 (hw.put hf) (fun g hg e => by
          rw [w2] at hg
          rw [modify_set hf] at hg
          rcases mem_set' hg with ⟨j, hji, hj⟩ | r
          · have hgm := List.mem_of_getElem? hj
            rcases List.mem_cons.1 (hd g hgm e) with r | r
            · exact absurd (h.inj hw hj hf (by omega)) hji
            · exact r
          · subst r; cases e)
        refine ⟨r1, r2, r3, ?_, by rw [r5]; exact hsame.2.2.2.1, by rw [r6]; exact hsame.1⟩
        rw [r4, w2, modify_set hf]
        rw [List.map_set]
        apply List.ext_getElem?
        intro j
        rw [List.getElem?_set]
        split
        · rename_i e; subst e
          have hl := (List.getElem?_eq_some_iff.1 hf).1
          rw [if_pos (by simpa using hl), List.getElem?_map, hf]; rfl
        · rfl
theorem Told.flush {p : Pl} {n : ByteArray} {N q : Nat} {T : Nat → UInt8 × List UInt8} {pg : List Pg} (h : Told p n N q T pg) (hw : p.WF) :
    (p.flush n).2 = 0 ∧ (∃ pg', Told (p.flush n).1 n N q T pg' ∧ ∃ f, (p.flush n).1.d.files = [f] ∧ f.name = n ∧ f.synced = pg' ∧ f.log = []) ∧ (p.flush n).1.fs = p.fs.map Fr.clean ∧ (p.flush n).1.peak = p.peak ∧ (p.flush n).1.most = p.most := by
  obtain ⟨r1, ⟨pg1, r2⟩, r3, r4, r5, r6⟩ := h.flushL (p.pagesOf n) hw (fun f hf _ => by
    unfold Pl.pagesOf
    rw [List.mem_mergeSort]
    exact List.mem_map.2 ⟨f, List.mem_filter.2 ⟨hf, by rw [(h.mine f hf).1]; simp⟩, rfl⟩)
  obtain ⟨s1, s2, s3, s4⟩ := r2.disk.sync
  have e : p.flush n = ((Pl.flushL n (p.pagesOf n) p).1.setD ((Pl.flushL n (p.pagesOf n) p).1.d.sync n).1, 0) := by
    unfold Pl.flush
    rw [if_neg (by rw [h.wrong]; simp), h.disk.len]
    simp only
    rw [if_neg (by simp), if_neg (by rw [r1]; simp), s1]
    rfl
  rw [e]
  exact ⟨rfl, ⟨pg1, ⟨r2.wrong, s2, r2.len, r2.mine, r2.rest⟩, s4⟩, r4, r5, r6⟩

end Go.Proofs.YtbhddkmfhampbaaGreatDoor

/-
  PoolPins in plain words: all frames held, one given back, one more.
-/
namespace Go.Proofs.YtbhddkmfhampbaaGreatDoor

theorem Told.congr {p : Pl} {n : ByteArray} {N q : Nat} {T T' : Nat → UInt8 × List UInt8} {pg : List Pg} (h : Told p n N q T pg) (e : ∀ k, k < N → T k = T' k) : Told p n N q T' pg :=
  ⟨h.wrong, h.disk, h.len, fun f hf => by obtain ⟨h1, h2, h3⟩ := h.mine f hf; exact ⟨h1, h2, by rw [← e _ h2]; exact h3⟩, fun k b hk hc => by
    have hl := (List.getElem?_eq_some_iff.1 hk).1
    rw [← e k (by rw [← h.len]; exact hl)]; exact h.rest k b hk hc⟩
theorem Told.erase_ne {p : Pl} {n : ByteArray} {N q : Nat} {T : Nat → UInt8 × List UInt8} {pg : List Pg} (h : Told p n N q T pg) (hw : p.WF) {i : Nat} {f g : Fr} (hf : p.fs[i]? = some f) (hg : g ∈ p.fs.eraseIdx i) : g ∈ p.fs ∧ g.page ≠ f.page := by
  obtain ⟨j, hji, hj⟩ := mem_erase.1 hg
  exact ⟨List.mem_of_getElem? hj, fun e => hji (h.inj hw hj hf e)⟩
theorem Told.modify_ne {p : Pl} {n : ByteArray} {N q : Nat} {T : Nat → UInt8 × List UInt8} {pg : List Pg} (h : Told p n N q T pg) (hw : p.WF) {i : Nat} {f g : Fr} {u : Fr → Fr} (hf : p.fs[i]? = some f) (hg : g ∈ p.fs.modify i u) : (g ∈ p.fs ∧ g.page ≠ f.page) ∨ g = u f := by
  rw [modify_set hf] at hg
  rcases mem_set' hg with ⟨j, hji, hj⟩ | r
  · exact .inl ⟨List.mem_of_getElem? hj, fun e => hji (h.inj hw hj hf e)⟩
  · exact .inr r
theorem modify_has {l : List Fr} {i : Nat} {f : Fr} {u : Fr → Fr} (hf : l[i]? = some f) (hu : (u f).page = f.page) {k : Nat} (h : ∃ g ∈ l, g.page = k) : ∃ g ∈ l.modify i u, g.page = k := by
  obtain ⟨g, hg, e⟩ := h
  obtain ⟨j, hj⟩ := List.mem_iff_getElem?.1 hg
  by_cases hij : i = j
  · subst hij
    rw [hf] at hj; cases hj
    exact ⟨u f, List.mem_of_getElem? (modify_same hf), hu.trans e⟩
  · exact ⟨g, List.mem_of_getElem? (by rw [modify_other hij]; exact hj), e⟩

/-- What the pages tell when 'm' frames were put to. -/
def pinT (m j : Nat) : UInt8 × List UInt8 := if j = m then (0, []) else (UInt8.ofNat j, [UInt8.ofNat j])
/-- Frames that are held. -/
structure HeldP (p : Pl) (n : ByteArray) (m N : Nat) (nx : Int) (L : Nat) (v : Nat → List Int → Prop) (gone : Nat → Prop) : Prop where
  told : ∃ pg, Told p n N 100 (pinT m) pg
  next : p.next = nx
  size : p.fs.length = L
  most : p.most = m
  pins : ∀ g ∈ p.fs, v g.page g.pins
  all : ∀ j, j < N → ¬ gone j → ∃ g ∈ p.fs, g.page = j

def v0 (j : Nat) (l : List Int) : Prop := l = [(j : Int) + 1]
def vA (j : Nat) (l : List Int) : Prop := (j = 2 ∧ l = []) ∨ (j ≠ 2 ∧ l = [(j : Int) + 1])
def vB (j : Nat) (l : List Int) : Prop := j ≠ 2 ∧ l = [(j : Int) + 1]
def vC (m j : Nat) (l : List Int) : Prop := j ≠ 2 ∧ ((j = m ∧ l = []) ∨ (j ≠ m ∧ l = [(j : Int) + 1]))
def vD (m j : Nat) (l : List Int) : Prop := j ≠ m ∧ ((j = 2 ∧ l = [(m : Int) + 2]) ∨ (j ≠ 2 ∧ l = [(j : Int) + 1]))

theorem HeldP.step {p : Pl} {n : ByteArray} {m i : Nat} (h : HeldP p n m i ((i : Int) + 1) i v0 (fun _ => False)) (hw : p.WF) (hi : i < m) (hm : m ≤ 27) :
    (p.fresh n).2 = ((i : Int) + 1, (i : Int), 0) ∧ ((p.fresh n).1.WF → ((p.fresh n).1.set ((i : Int) + 1) (UInt8.ofNat i) [UInt8.ofNat i]).2 = 0 ∧ HeldP ((p.fresh n).1.set ((i : Int) + 1) (UInt8.ofNat i) [UInt8.ofNat i]).1 n m (i + 1) (((i + 1 : Nat) : Int) + 1) (i + 1) v0 (fun _ => False)) := by
  obtain ⟨pg, ht⟩ := h.told
  have hfree : p.fs.length < p.most := by rw [h.size, h.most]; exact hi
  obtain ⟨r1, r2, r3, r4, r5, _, pg', r6⟩ := ht.fresh hw (.inl hfree) (by omega)
  rw [Pl.room_free hfree, h.next] at r2
  rw [h.next] at r1 r3
  refine ⟨r1, fun hw1 => ?_⟩
  have hlast : (p.fresh n).1.fs[p.fs.length]? = some ⟨n, i, 0, [], false, [(i : Int) + 1], 0⟩ := by rw [r2]; simp
  obtain ⟨s1, s2⟩ := r6.set hw1 (x := (i : Int) + 1) (k := UInt8.ofNat i) (b := [UInt8.ofNat i]) hlast (by simp) (by simp)
  rw [s1]
  refine ⟨rfl, ⟨pg', s2.congr fun k hk => ?_⟩, ?_, ?_, ?_, ?_, ?_⟩
  · by_cases e : k = i
    · subst e; rw [setT_same]; unfold pinT; rw [if_neg (by omega)]
    · rw [setT_other e, setT_other e]
  · show (p.fresh n).1.next = _
    rw [r3]
    have : w64 ((i : Int) + 1 + 1) = (i : Int) + 1 + 1 := by unfold w64; exact wrap64 (by omega) (by omega)
    rw [this]; omega
  · show ((p.fresh n).1.fs.modify _ _).length = _
    rw [List.length_modify, r2]; simp [h.size]
  · show (p.fresh n).1.most = m
    rw [r4, h.most]
  · intro g hg
    have hg : g ∈ (p.fresh n).1.fs.modify p.fs.length (Fr.set (UInt8.ofNat i) [UInt8.ofNat i]) := hg
    rw [r2, modify_last] at hg
    rcases List.mem_append.1 hg with q | q
    · exact h.pins g q
    · simp at q; subst q; rfl
  · intro j hj _
    show ∃ g ∈ (p.fresh n).1.fs.modify p.fs.length (Fr.set (UInt8.ofNat i) [UInt8.ofNat i]), g.page = j
    rw [r2, modify_last]
    by_cases e : j = i
    · subst e; exact ⟨_, List.mem_append_right _ List.mem_cons_self, rfl⟩
    · obtain ⟨g, hg, e2⟩ := h.all j (by omega) id
      exact ⟨g, List.mem_append_left _ hg, e2⟩
theorem HeldP.full {p : Pl} {n : ByteArray} {m N : Nat} {nx : Int} {v : Nat → List Int → Prop} {gone : Nat → Prop} (h : HeldP p n m N nx m v gone) (hv : ∀ j l, v j l → l ≠ []) : (¬ p.fs.length < p.most) ∧ (∀ f ∈ p.fs, f.pins ≠ []) :=
  ⟨by rw [h.size, h.most]; omega, fun f hf => hv _ _ (h.pins f hf)⟩
theorem v0_ne : ∀ j l, v0 j l → l ≠ [] := fun j l h e => by rw [h] at e; cases e
theorem vB_ne : ∀ j l, vB j l → l ≠ [] := fun j l h e => by rw [h.2] at e; cases e
theorem HeldP.at {p : Pl} {n : ByteArray} {m N : Nat} {nx : Int} {L : Nat} {v : Nat → List Int → Prop} {gone : Nat → Prop} (h : HeldP p n m N nx L v gone) {j : Nat} (hj : j < N) (hg : ¬ gone j) : ∃ (i : Nat) (f : Fr), p.fs[i]? = some f ∧ f.page = j ∧ v j f.pins := by
  obtain ⟨g, hg, e⟩ := h.all j hj hg
  obtain ⟨i, hi⟩ := List.mem_iff_getElem?.1 hg
  exact ⟨i, g, hi, e, e ▸ h.pins g hg⟩
theorem HeldP.unpin3 {p : Pl} {n : ByteArray} {m : Nat} (h : HeldP p n m m ((m : Int) + 1) m v0 (fun _ => False)) (hw : p.WF) (hm : 8 ≤ m) : (p.unpin 3).2 = 0 ∧ HeldP (p.unpin 3).1 n m m ((m : Int) + 1) m vA (fun _ => False) := by
  obtain ⟨pg, ht⟩ := h.told
  obtain ⟨i, f, hf, e, hp⟩ := h.at (j := 2) (by omega) id
  have hp : f.pins = [3] := hp
  obtain ⟨u1, u2⟩ := ht.unpin hw (x := 3) hf (by rw [hp]; simp)
  rw [u1] at u2 ⊢
  refine ⟨rfl, ⟨pg, u2⟩, h.next, by show (p.fs.modify i _).length = m; rw [List.length_modify]; exact h.size, h.most, fun g hg => ?_, fun j hj _ => ?_⟩
  · rcases ht.modify_ne hw hf hg with ⟨q1, q2⟩ | q
    · exact .inr ⟨by omega, h.pins g q1⟩
    · subst q; exact .inl ⟨e, by show List.filter _ f.pins = []; rw [hp]; simp⟩
  · exact modify_has hf rfl (h.all j hj id)
theorem HeldP.freshA {p : Pl} {n : ByteArray} {m : Nat} (h : HeldP p n m m ((m : Int) + 1) m vA (fun _ => False)) (hw : p.WF) (hm : 8 ≤ m) (hm2 : m ≤ 27) :
    (p.fresh n).2 = ((m : Int) + 1, (m : Int), 0) ∧ HeldP (p.fresh n).1 n m (m + 1) ((m : Int) + 2) m vB (fun j => j = 2) := by
  obtain ⟨pg, ht⟩ := h.told
  obtain ⟨i2, f2, hf2, e2, hp2⟩ := h.at (j := 2) (by omega) id
  have hp2' : f2.pins = [] := by
    rcases hp2 with ⟨_, q⟩ | ⟨q, _⟩
    · exact q
    · exact absurd rfl q
  have hfull : ¬ p.fs.length < p.most := by rw [h.size, h.most]; omega
  have hex : ∃ g ∈ p.fs, g.pins = [] := ⟨f2, List.mem_of_getElem? hf2, hp2'⟩
  obtain ⟨i, f, pg1, a1, a2, a3, a4, a5⟩ := ht.make hw hfull (List.mem_of_getElem? hf2) hp2'
  obtain ⟨r1, r2, r3, r4, r5, _, pg', r6⟩ := ht.fresh hw (.inr hex) (by omega)
  have hfp : f.page = 2 := by
    rcases h.pins f (List.mem_of_getElem? a1) with ⟨q, _⟩ | ⟨_, q⟩
    · exact q
    · rw [a2] at q; cases q
  rw [h.next] at r1 r2 r3
  rw [a4] at r2
  have hil := (List.getElem?_eq_some_iff.1 a1).1
  refine ⟨r1, ⟨pg', r6.congr fun k hk => ?_⟩, ?_, ?_, by rw [r4, h.most], ?_, ?_⟩
  · by_cases e : k = m
    · subst e; rw [setT_same]; unfold pinT; rw [if_pos rfl]
    · rw [setT_other e]
  · rw [r3]
    have : w64 ((m : Int) + 1 + 1) = (m : Int) + 1 + 1 := by unfold w64; exact wrap64 (by omega) (by omega)
    rw [this]; omega
  · rw [r2]
    simp only [List.length_append, List.length_singleton, List.length_eraseIdx_of_lt hil, h.size]
    omega
  · intro g hg
    rw [r2] at hg
    rcases List.mem_append.1 hg with q | q
    · obtain ⟨q1, q2⟩ := ht.erase_ne hw a1 q
      rcases h.pins g q1 with ⟨q3, _⟩ | q3
      · omega
      · exact q3
    · simp at q; subst q; exact ⟨by simp only; omega, rfl⟩
  · intro j hj hj2
    rw [r2]
    by_cases e : j = m
    · subst e; exact ⟨_, List.mem_append_right _ List.mem_cons_self, rfl⟩
    · obtain ⟨g, hg, e2⟩ := h.all j (by omega) id
      obtain ⟨k, hk⟩ := List.mem_iff_getElem?.1 hg
      refine ⟨g, List.mem_append_left _ (mem_erase.2 ⟨k, ?_, hk⟩), e2⟩
      rintro rfl
      rw [a1] at hk; cases hk; omega
theorem HeldP.pinB {p : Pl} {n : ByteArray} {m : Nat} (h : HeldP p n m (m + 1) ((m : Int) + 2) m vB (fun j => j = 2)) (hm : 8 ≤ m) : p.pin n 2 = (p, 0, 31) := by
  obtain ⟨pg, ht⟩ := h.told
  obtain ⟨q1, q2⟩ := h.full vB_ne
  exact ht.pin_full (k := 2) (Pl.find_none_of fun f hf _ e => by have := (h.pins f hf).1; omega) (by omega) q1 q2
theorem HeldP.unpinB {p : Pl} {n : ByteArray} {m : Nat} (h : HeldP p n m (m + 1) ((m : Int) + 2) m vB (fun j => j = 2)) (hw : p.WF) (hm : 8 ≤ m) : (p.unpin ((m : Int) + 1)).2 = 0 ∧ HeldP (p.unpin ((m : Int) + 1)).1 n m (m + 1) ((m : Int) + 2) m (vC m) (fun j => j = 2) := by
  obtain ⟨pg, ht⟩ := h.told
  obtain ⟨i, f, hf, e, hp⟩ := h.at (j := m) (by omega) (by omega)
  obtain ⟨u1, u2⟩ := ht.unpin hw (x := (m : Int) + 1) hf (by rw [hp.2]; simp)
  rw [u1] at u2 ⊢
  refine ⟨rfl, ⟨pg, u2⟩, h.next, by show (p.fs.modify i _).length = m; rw [List.length_modify]; exact h.size, h.most, fun g hg => ?_, fun j hj hj2 => ?_⟩
  · rcases ht.modify_ne hw hf hg with ⟨q1, q2⟩ | q
    · have := h.pins g q1
      exact ⟨this.1, .inr ⟨by omega, this.2⟩⟩
    · subst q; exact ⟨by show f.page ≠ 2; omega, .inl ⟨e, by show List.filter _ f.pins = []; rw [hp.2]; simp⟩⟩
  · exact modify_has hf rfl (h.all j hj hj2)
theorem HeldP.pinC {p : Pl} {n : ByteArray} {m : Nat} (h : HeldP p n m (m + 1) ((m : Int) + 2) m (vC m) (fun j => j = 2)) (hw : p.WF) (hm : 8 ≤ m) (hm2 : m ≤ 27) :
    (p.pin n 2).2 = ((m : Int) + 2, 0) ∧ HeldP (p.pin n 2).1 n m (m + 1) ((m : Int) + 3) m (vD m) (fun j => j = m) := by
  obtain ⟨pg, ht⟩ := h.told
  obtain ⟨im, fm, hfm, em, hpm⟩ := h.at (j := m) (by omega) (by omega)
  have hpm' : fm.pins = [] := by
    rcases hpm.2 with ⟨_, q⟩ | ⟨q, _⟩
    · exact q
    · exact absurd rfl q
  have hfull : ¬ p.fs.length < p.most := by rw [h.size, h.most]; omega
  have hex : ∃ g ∈ p.fs, g.pins = [] := ⟨fm, List.mem_of_getElem? hfm, hpm'⟩
  obtain ⟨i, f, pg1, a1, a2, a3, a4, a5⟩ := ht.make hw hfull (List.mem_of_getElem? hfm) hpm'
  have hfind : p.find n (2 : Nat) = none := Pl.find_none_of fun f hf _ e => by have := (h.pins f hf).1; omega
  obtain ⟨r1, r2, r3, r4, pg', r6⟩ := ht.pin_out hw (k := 2) hfind (by omega) (.inr hex)
  have hfp : f.page = m := by
    rcases (h.pins f (List.mem_of_getElem? a1)).2 with ⟨q, _⟩ | ⟨_, q⟩
    · exact q
    · rw [a2] at q; cases q
  rw [h.next] at r1 r2 r3
  rw [a4] at r2
  have hil := (List.getElem?_eq_some_iff.1 a1).1
  refine ⟨r1, ⟨pg', r6⟩, ?_, ?_, by rw [← h.most]; exact r4, ?_, ?_⟩
  · refine r3.trans ?_
    have : w64 ((m : Int) + 2 + 1) = (m : Int) + 2 + 1 := by unfold w64; exact wrap64 (by omega) (by omega)
    rw [this]; omega
  · refine (congrArg List.length r2).trans ?_
    simp only [List.length_append, List.length_singleton, List.length_eraseIdx_of_lt hil, h.size]
    omega
  · intro g hg
    have hg := r2 ▸ hg
    rcases List.mem_append.1 hg with q | q
    · obtain ⟨q1, q2⟩ := ht.erase_ne hw a1 q
      have hv := h.pins g q1
      rcases hv.2 with ⟨q3, _⟩ | q3
      · omega
      · exact ⟨by omega, .inr ⟨hv.1, q3.2⟩⟩
    · simp at q; subst q; exact ⟨by simp only; omega, .inl ⟨rfl, rfl⟩⟩
  · intro j hj hjm
    suffices hs : ∃ g ∈ p.fs.eraseIdx i ++ [(⟨n, 2, (pinT m 2).1, (pinT m 2).2, false, [(m : Int) + 2], 0⟩ : Fr)], g.page = j by
      obtain ⟨g, h1, h2⟩ := hs
      exact ⟨g, r2 ▸ h1, h2⟩
    by_cases e : j = 2
    · subst e; exact ⟨_, List.mem_append_right _ List.mem_cons_self, rfl⟩
    · obtain ⟨g, hg, e2⟩ := h.all j hj e
      obtain ⟨k, hk⟩ := List.mem_iff_getElem?.1 hg
      refine ⟨g, List.mem_append_left _ (mem_erase.2 ⟨k, ?_, hk⟩), e2⟩
      rintro rfl
      rw [a1] at hk; cases hk; omega
theorem HeldP.getD {p : Pl} {n : ByteArray} {m : Nat} (h : HeldP p n m (m + 1) ((m : Int) + 3) m (vD m) (fun j => j = m)) (hw : p.WF) (hm : 8 ≤ m) (hm2 : m ≤ 27) :
    p.get ((m : Int) + 2) = (2, [2], 0) ∧ (∀ j : Nat, j < m → j ≠ 2 → p.get ((j : Int) + 1) = (UInt8.ofNat j, [UInt8.ofNat j], 0)) ∧ p.dropF n = (p, 31) := by
  obtain ⟨pg, ht⟩ := h.told
  refine ⟨?_, fun j hj hj2 => ?_, ?_⟩
  · obtain ⟨i, f, hf, e, hp⟩ := h.at (j := 2) (by omega) (by omega)
    have hp' : f.pins = [(m : Int) + 2] := by
      rcases hp.2 with ⟨_, q⟩ | ⟨q, _⟩
      · exact q
      · exact absurd rfl q
    rw [ht.get hw (List.mem_of_getElem? hf) (x := (m : Int) + 2) (by rw [hp']; simp), e]
    unfold pinT; rw [if_neg (by omega)]; rfl
  · obtain ⟨i, f, hf, e, hp⟩ := h.at (j := j) (by omega) (by omega)
    have hp' : f.pins = [(j : Int) + 1] := by
      rcases hp.2 with ⟨q, _⟩ | ⟨_, q⟩
      · exact absurd q hj2
      · exact q
    rw [ht.get hw (List.mem_of_getElem? hf) (x := (j : Int) + 1) (by rw [hp']; simp), e]
    unfold pinT; rw [if_neg (by omega)]
  · obtain ⟨i, f, hf, e, hp⟩ := h.at (j := 2) (by omega) (by omega)
    have hp' : f.pins = [(m : Int) + 2] := by
      rcases hp.2 with ⟨_, q⟩ | ⟨q, _⟩
      · exact q
      · exact absurd rfl q
    unfold Pl.dropF
    rw [if_neg (by rw [ht.wrong]; simp), ht.disk.len]
    simp only
    rw [if_neg (by simp), if_pos]
    refine List.any_eq_true.2 ⟨f, List.mem_of_getElem? hf, ?_⟩
    rw [(ht.mine f (List.mem_of_getElem? hf)).1, hp']; simp

end Go.Proofs.YtbhddkmfhampbaaGreatDoor

/-
  Pick: a number brought into a range.
-/
namespace Go.Proofs.YtbhddkmfhampbaaGreatDoor

theorem PickN_ok {i n : Int} {H : Heap} {K : Int → Heap → Prop} (h2 : n ≤ 9223372036854775807)
    (hK : K (if n < 1 then 0 else i.emod n) H) : fathomkit_Pick.sp i n H K := by
  refine fathomkit_Pick.of ?_
  unfold fathomkit_Pick.vc
  refine br_mk (fun h => ?_) (fun h => ?_)
  · have : n < 1 := by simpa using h
    simpa [this] using hK
  · have hn : 1 ≤ n := by simpa using h
    refine ⟨by omega, ?_⟩
    rw [if_neg (by omega)] at hK
    refine br_mk (fun h => ?_) (fun h => ?_)
    · have hneg : i.tmod n < 0 := by simpa using h
      have e : i.emod n = i.tmod n + n := by
        rw [Int.tmod_eq_emod] at hneg ⊢
        split at hneg
        · have := Int.emod_nonneg i (show n ≠ 0 by omega)
          omega
        · rename_i h3
          rw [if_neg h3]
          have : (n.natAbs : Int) = n := by omega
          have e2 : i % n = i.emod n := rfl
          omega
      have hb1 : -n < i.tmod n := by
        rw [Int.tmod_eq_emod]
        have := Int.emod_nonneg i (show n ≠ 0 by omega)
        split <;> omega
      rw [wrap64 (by omega) (by omega), ← e]
      exact hK
    · have hpos : 0 ≤ i.tmod n := by simpa using h
      have e : i.emod n = i.tmod n := by
        rw [Int.tmod_eq_emod] at hpos ⊢
        split
        · simp; rfl
        · rename_i h3
          rw [if_neg h3] at hpos
          have := Int.emod_lt_of_pos i (show 0 < n by omega)
          have : (n.natAbs : Int) = n := by omega
          omega
      rw [← e]; exact hK

end Go.Proofs.YtbhddkmfhampbaaGreatDoor

/-
  The pool's calls in a row: what a statement that makes them walks by; works.
-/
namespace Go.Proofs.YtbhddkmfhampbaaGreatDoor
open Go.MapKept

/-- A pool that was made since 'H'. -/
def TP (H A : Heap) (p dp : Nat) (s : Pl) : Prop := Ext H A ∧ ∃ F, PoolAt F A p dp s ∧ ∀ b, F b → H.size ≤ b

variable {H A : Heap} {p dp : Nat} {s : Pl} {n : ByteArray}
theorem TP.ext {B : Heap} (t : TP H A p dp s) (e : Ext A B) : TP H B p dp s := by
  obtain ⟨h1, F, h2, h3⟩ := t
  exact ⟨h1.trans e, F, h2.ext e, h3⟩
theorem TP.gl (t : TP H A p dp s) (hg : Gl H) : Gl A := hg.mod t.1 id
theorem TP.wf (t : TP H A p dp s) : s.WF := by
  obtain ⟨h1, F, h2, h3⟩ := t; exact h2.wf
theorem TP.go (t : TP H A p dp s) : ∃ F, PoolAt F A p dp s ∧ ∀ (s' : Pl) (F' : Nat → Prop) (B : Heap), PoolAt F' B p dp s' → Step F F' A B → TP H B p dp s' := by
  obtain ⟨h1, F, h2, h3⟩ := t
  refine ⟨F, h2, fun s' F' B h4 S => ⟨⟨Nat.le_trans h1.size S.mod.size, fun b hb _ => (S.mod.same b (Nat.lt_of_lt_of_le hb h1.size) fun q => by have := h3 b q; omega).trans (h1.same b hb id)⟩, F', h4, fun b hb => ?_⟩⟩
  rcases S.own b hb with q | q
  · exact h3 b q
  · exact Nat.le_trans h1.size q
theorem TP.disk (t : TP H A p dp s) (hg : Gl H) : ∃ D, DiskAt D A dp s.d ∧ ∀ (d : Dk) (D' : Nat → Prop) (B : Heap), DiskAt D' B dp d → Step D D' A B → TP H B p dp (s.setD d) := by
  have hgA := t.gl hg
  obtain ⟨F, h1, h2⟩ := t.go
  obtain ⟨D, q1, q2, q3⟩ := h1.disk hgA
  refine ⟨D, q1, fun d D' B h4 S => ?_⟩
  obtain ⟨F', r1, r2⟩ := q3 D' B d h4 S
  exact h2 _ F' B r1 r2

theorem TP.fresh {K : (Int × Int × Int) → Heap → Prop} {r : Int × Int × Int} (t : TP H A p dp s) (hg : Gl H) (hn : n.size ≤ 9223372036854775807) (hl : s.d.logs < 68719470000) (hx : s.next < 9223372036854775807) (hf : s.Fit) (hr : (s.fresh n).2 = r)
    (hK : ∀ B, TP H B p dp (s.fresh n).1 → K r B) : pool_Pool_Fresh.sp (at0 p) n A K := by
  have hgA := t.gl hg
  obtain ⟨F, h1, h2⟩ := t.go
  refine Fresh_ok hgA h1 hn (by omega) hx hf fun F' B h3 S => ?_
  subst hr
  exact hK B (h2 _ F' B h3 S)
theorem TP.pin {K : (Int × Int) → Heap → Prop} {k : Int} {r : Int × Int} (t : TP H A p dp s) (hg : Gl H) (hn : n.size ≤ 9223372036854775807) (h0 : -9223372036854775808 ≤ k) (h1 : k ≤ 9223372036854775807) (hl : s.d.logs < 68719470000) (hx : s.next < 9223372036854775807) (hr : (s.pin n k).2 = r)
    (hK : ∀ B, TP H B p dp (s.pin n k).1 → K r B) : pool_Pool_Pin.sp (at0 p) n k A K := by
  have hgA := t.gl hg
  obtain ⟨F, h2, h3⟩ := t.go
  refine Pin_ok hgA h2 hn h0 h1 (by omega) hx fun F' B h4 S => ?_
  subst hr
  exact hK B (h3 _ F' B h4 S)
theorem TP.get {K : (Int × Sl × Int) → Heap → Prop} {k e : Int} {a : UInt8} {b : List UInt8} (t : TP H A p dp s) (hr : s.get k = (a, b, e))
    (hK : ∀ sl B, SlE EB ty_uint8 B sl b → TP H B p dp s → Ext A B → K ((a.toNat : Int), sl, e) B) : pool_Pool_Get.sp (at0 p) k A K := by
  have t0 := t
  obtain ⟨h1, F, h2, h3⟩ := t
  refine Get_ok h2 fun sl B o e1 f => ?_
  rw [hr] at o ⊢
  exact hK sl B o (t0.ext e1) e1
theorem TP.put {K : Int → Heap → Prop} {k e : Int} {kd : UInt8} {b : Sl} {l : List UInt8} (t : TP H A p dp s) (hg : Gl H) (hb : Byts A b l) (hr : (s.set k kd l).2 = e)
    (hK : ∀ B, TP H B p dp (s.set k kd l).1 → K e B) : pool_Pool_Put.sp (at0 p) k (kd.toNat : Int) b A K := by
  have hgA := t.gl hg
  obtain ⟨F, h2, h3⟩ := t.go
  refine Put_ok hgA h2 hb fun F' B h4 S => ?_
  rw [hr]
  exact hK B (h3 _ F' B h4 S)
theorem TP.unpin {K : Int → Heap → Prop} {k e : Int} (t : TP H A p dp s) (hg : Gl H) (hx : s.next < 9223372036854775807) (hr : (s.unpin k).2 = e)
    (hK : ∀ B, TP H B p dp (s.unpin k).1 → K e B) : pool_Pool_Unpin.sp (at0 p) k A K := by
  have hgA := t.gl hg
  obtain ⟨F, h2, h3⟩ := t.go
  refine Unpin_ok hgA h2 hx fun F' B h4 S => ?_
  rw [hr]
  exact hK B (h3 _ F' B h4 S)
theorem TP.flush {K : Int → Heap → Prop} {e : Int} (t : TP H A p dp s) (hg : Gl H) (hl : s.d.logs < 68719470000) (hr : (s.flush n).2 = e)
    (hK : ∀ B, TP H B p dp (s.flush n).1 → K e B) : pool_Pool_Flush.sp (at0 p) n A K := by
  have hgA := t.gl hg
  obtain ⟨F, h2, h3⟩ := t.go
  refine Flush_ok hgA h2 hl fun F' B h4 S => ?_
  rw [hr]
  exact hK B (h3 _ F' B h4 S)
theorem TP.dropF {K : Int → Heap → Prop} {e : Int} (t : TP H A p dp s) (hg : Gl H) (hr : (s.dropF n).2 = e)
    (hK : ∀ B, TP H B p dp (s.dropF n).1 → K e B) : pool_Pool_Drop.sp (at0 p) n A K := by
  have hgA := t.gl hg
  obtain ⟨F, h2, h3⟩ := t.go
  refine Drop_ok hgA h2 fun F' B h4 S => ?_
  rw [hr]
  exact hK B (h3 _ F' B h4 S)
theorem TP.new {D : Nat → Prop} {d : Dk} {m : Nat} {K : (Option Addr × Int) → Heap → Prop} (hg : Gl H) (e : Ext H A) (hd : DiskAt D A dp d) (hD : ∀ b, D b → H.size ≤ b) (h8 : 8 ≤ m) (hm : m ≤ 4096)
    (hK : ∀ p B, TP H B p dp (pl0 d m) → K (at0 p, 0) B) : pool_New.sp (at0 dp) (m : Int) A K := by
  refine PoolNew_ok (hg.mod e id) hd (fun q => by have := hD _ q; have := hg.lt; omega) h8 hm fun F p B h1 e1 f1 => ?_
  refine hK p B ⟨e.trans e1, F, h1, fun b hb => ?_⟩
  rcases f1 b hb with q | q
  · exact hD b q
  · exact Nat.le_trans e.size q

/-! ### A new disk of one file -/

def nmF : ByteArray := ByteArray.mk #[102]
theorem nmF_named : named nmF = true := by decide
theorem create_live {q : Int} (h0 : 0 ≤ q) (hq : q ≤ 1048576) {n : ByteArray} (hn : named n = true) : Live ((dk0 q).create n).1 n [] q.toNat ∧ ((dk0 q).create n).1.ops = 1 ∧ ((dk0 q).create n).2 = 0 ∧ ((dk0 q).create n).1.logs = 0 := by
  have e : (dk0 q).create n = ({ dk0 q with files := [⟨n, [], []⟩], ops := w64 (0 + 1) }, 0) := by
    unfold Dk.create
    rw [if_neg (by simp [dk0]), if_neg (by rw [hn]; simp), if_neg (by simp [dk0, Dk.idx]), if_neg (by simp [dk0])]
    rfl
  rw [e]
  refine ⟨⟨rfl, rfl, ⟨_, rfl, rfl, rfl⟩, ?_⟩, by show w64 (0 + 1) = 1; decide, rfl, rfl⟩
  show (min (max q 0) 1048576).toNat = q.toNat
  congr 1; omega
theorem pl0_told {d : Dk} {n : ByteArray} {q m : Nat} {T : Nat → UInt8 × List UInt8} (h : Live d n [] q) : Told (pl0 d m) n 0 q T [] :=
  ⟨rfl, h, rfl, by intro f hf; simp [pl0] at hf, by intro k b hk; simp at hk⟩

/-- One frame that is dirty is written, and no more. -/
theorem flush_one {p : Pl} {n : ByteArray} {N q : Nat} {T : Nat → UInt8 × List UInt8} {pg : List Pg} (h : Told p n N q T pg) (hw : p.WF) {f : Fr} (hf : p.fs = [f]) (hd : f.dirty = true) : (p.flush n).1.d.ops = w64 (w64 (p.d.ops + 1) + 1) := by
  have hi : p.fs[0]? = some f := by rw [hf]; rfl
  have hn := (h.mine f (by rw [hf]; simp)).1
  have epg : p.pagesOf n = [f.page] := by
    unfold Pl.pagesOf
    rw [hf]; simp [hn]
  have hfind : p.find n f.page = some 0 := by rw [← hn]; exact Pl.find_eq hw hi
  obtain ⟨w1, w2, w3, pg', w4⟩ := h.put hw hi
  have efl : Pl.flushL n (p.pagesOf n) p = ((p.put 0).1, 0) := by
    rw [epg]
    unfold Pl.flushL
    rw [hfind]
    simp only [Pl.frame_eq hi, hd]
    rw [if_pos trivial, if_pos w1]; rfl
  obtain ⟨s1, s2, s3, s4⟩ := w4.disk.sync
  have e : (p.flush n).1.d = ((p.put 0).1.d.sync n).1 := by
    unfold Pl.flush
    rw [if_neg (by rw [h.wrong]; simp), h.disk.len]
    simp only
    rw [if_neg (by simp), efl, if_neg (by simp), Pl.out_d]
    rfl
  rw [e, s3, w3]

theorem pworks_ok {K : Bool → Heap → Prop} (hg : Gl H) (hK : ∀ B, Ext H B → K true B) : fathomlaw03_works.sp H K := by
  refine fathomlaw03_works.of ?_
  unfold fathomlaw03_works.vc
  obtain ⟨c1, c2, c3, c4⟩ := create_live (q := 20) (by decide) (by decide) nmF_named
  refine New_ok (by decide) fun F1 d H1 a1 e1 f1 => ?_
  refine Create_ok (n := nmF) a1 fun F2 H2 a2 S2 => ?_
  have e2 : Ext H H2 := ⟨Nat.le_trans e1.size S2.mod.size, fun b hb _ => (S2.mod.same b (Nat.lt_of_lt_of_le hb e1.size) fun q => by have := f1 b q; omega).trans (e1.same b hb id)⟩
  have f2 : ∀ b, F2 b → H.size ≤ b := fun b hb => by
    rcases S2.own b hb with q | q
    · exact f1 b q
    · exact Nat.le_trans e1.size q
  refine TP.new (m := 8) hg e2 a2 f2 (by decide) (by decide) fun p H3 t3 => ?_
  refine br_f rfl (br_f rfl ?_)
  obtain ⟨s0, hs0⟩ : ∃ s0, s0 = pl0 ((dk0 20).create nmF).1 8 := ⟨_, rfl⟩
  rw [← hs0] at t3
  have told0 : Told s0 nmF 0 20 (fun _ => (0, [])) [] := by rw [hs0]; exact pl0_told c1
  have x0 : s0.fs = [] := by rw [hs0]; rfl
  have x1 : s0.next = 1 := by rw [hs0]; rfl
  have x2 : s0.most = 8 := by rw [hs0]; rfl
  have x3 : s0.d.logs = 0 := by rw [hs0]; exact c4
  have x4 : s0.d.ops = 1 := by rw [hs0]; exact c2
  have hfree : s0.fs.length < s0.most := by rw [x0, x2]; decide
  obtain ⟨r1, r2, r3, r4, r5, r6, pg1, r7⟩ := told0.fresh t3.wf (.inl hfree) (by decide)
  rw [Pl.room_free hfree, x0, x1] at r2
  rw [Pl.room_free hfree, x4] at r6
  rw [x1] at r1 r3
  refine TP.fresh (n := nmF) t3 hg (by decide) (by omega) (by omega) told0.fit r1 fun H4 t4 => ?_
  have l4 := s0.fresh_logs nmF
  refine newC_rowT fun H5 z5 r5' e5 => ?_
  have t5 := t4.ext e5
  have hb5 : Byts H5 (Sl.mk (some ⟨H4.size, 0, none⟩) 3 3) [1, 2, 3] := RowB.byts (l := [1, 2, 3]) (o := 0) r5' (by simp)
  have hat : (s0.fresh nmF).1.fs[0]? = some ⟨nmF, 0, 0, [], false, [1], 0⟩ := by rw [r2]; rfl
  obtain ⟨u1, u2⟩ := r7.set t5.wf (x := 1) (k := 5) (b := [1, 2, 3]) hat (by simp) (by simp)
  refine TP.put (kd := 5) t5 hg hb5 (congrArg Prod.snd u1) fun H6 t6 => ?_
  rw [u1] at t6
  obtain ⟨s2, hs2⟩ : ∃ s2, s2 = (s0.fresh nmF).1.turn 0 (Fr.set 5 [1, 2, 3]) := ⟨_, rfl⟩
  rw [← hs2] at u2
  have t6 : TP H H6 p d s2 := by rw [hs2]; exact t6
  have y0 : s2.fs = [⟨nmF, 0, 5, [1, 2, 3], true, [1], 0⟩] := by
    rw [hs2]
    show (s0.fresh nmF).1.fs.modify 0 _ = _
    rw [r2]; rfl
  have y1 : s2.next = 2 := by
    rw [hs2]; show (s0.fresh nmF).1.next = 2
    rw [r3]; decide
  have y2 : s2.d = (s0.fresh nmF).1.d := by rw [hs2]; rfl
  obtain ⟨v1, v2⟩ := u2.unpin t6.wf (i := 0) (f := ⟨nmF, 0, 5, [1, 2, 3], true, [1], 0⟩) (x := 1) (by rw [y0]; rfl) (by simp)
  refine TP.unpin t6 hg (by omega) (congrArg Prod.snd v1) fun H7 t7 => ?_
  have w0 : ∃ lf, (s2.unpin 1).1.fs = [⟨nmF, 0, 5, [1, 2, 3], true, [], lf⟩] := ⟨w64 (s2.tick + 1), by rw [v1]; show s2.fs.modify 0 _ = _; rw [y0]; rfl⟩
  have w1 : (s2.unpin 1).1.next = 2 := by rw [v1]; exact y1
  have w2 : (s2.unpin 1).1.d = (s0.fresh nmF).1.d := by rw [s2.unpin_d, y2]
  obtain ⟨s3, hs3⟩ : ∃ s3, s3 = (s2.unpin 1).1 := ⟨_, rfl⟩
  rw [← hs3] at v2 t7 w0 w1 w2
  obtain ⟨lf, w0⟩ := w0
  have hops := flush_one v2 t7.wf w0 rfl
  obtain ⟨q1, ⟨pg2, q2, _⟩, q3, q4, q5⟩ := v2.flush t7.wf
  have l7 := s3.flush_logs nmF
  have l7' : s3.d.logs ≤ 2 := by rw [w2]; omega
  refine TP.flush (n := nmF) t7 hg (by omega) q1 fun H8 t8 => ?_
  have l8 : s3.fs.length = 1 := by rw [w0]; rfl
  have hnx8 : (s3.flush nmF).1.next = 2 := by
    have e : (s3.flush nmF).1.next = s3.next := s3.flush_next nmF
    rw [e]; exact w1
  obtain ⟨s4, hs4⟩ : ∃ s4, s4 = (s3.flush nmF).1 := ⟨_, rfl⟩
  rw [← hs4] at q2 q3 t8 hnx8 l7 hops
  have w3 : s4.fs = [⟨nmF, 0, 5, [1, 2, 3], false, [], lf⟩] := by rw [q3, w0]; rfl
  have hi4 : s4.find nmF ((0 : Nat) : Int) = some 0 := Pl.find_eq (f := ⟨nmF, 0, 5, [1, 2, 3], false, [], lf⟩) t8.wf (by rw [w3]; rfl)
  obtain ⟨g1, g2⟩ := q2.pin_in (k := 0) hi4 (f := ⟨nmF, 0, 5, [1, 2, 3], false, [], lf⟩) (by rw [w3]; rfl)
  refine TP.pin (n := nmF) (k := 0) (r := (2, 0)) t8 hg (by decide) (by decide) (by decide) (by omega) (by omega) (by
    have := congrArg Prod.snd g1
    rw [hnx8] at this; exact this) fun H9 t9 => ?_
  have e9 : (s4.pin nmF 0).1 = s4.pinAt 0 := congrArg Prod.fst g1
  rw [e9] at t9
  have hfs5 : (s4.pinAt 0).fs = [⟨nmF, 0, 5, [1, 2, 3], false, [2], lf⟩] := by
    show s4.fs.modify 0 (Fr.pin s4.next) = _
    rw [w3, hnx8]; rfl
  have hget := g2.get t9.wf (f := ⟨nmF, 0, 5, [1, 2, 3], false, [2], lf⟩) (x := 2) (by rw [hfs5]; simp) (by simp)
  refine TP.get (a := 5) (b := [1, 2, 3]) (e := 0) t9 (hget.trans rfl) fun sl H10 o10 t10 e10 => ?_
  refine br_t rfl ?_
  refine strB_eq (SlB_byts o10) ?_
  refine br_t (beq_iff_eq.2 rfl) ?_
  obtain ⟨D, hD, _⟩ := t10.disk hg
  refine Ops_ok hD ?_
  have ho : (s4.pinAt 0).d.ops = 4 := by
    show s4.d.ops = 4
    rw [hops, w2, r6]; decide
  rw [ho]
  refine br_t rfl ?_
  obtain ⟨h1, F, h2, h3⟩ := t10
  refine Resident_ok h2 ?_
  rw [hfs5]
  exact hK H10 h1

end Go.Proofs.YtbhddkmfhampbaaGreatDoor

/-
  The pool's statements: a step's bytes; a pool that is not there.
-/
namespace Go.Proofs.YtbhddkmfhampbaaGreatDoor
open Go.MapKept

theorem ofNat_u8 {x : Int} (h : 0 ≤ x ∧ x < 256) : ((UInt8.ofNat x.toNat).toNat : Int) = x := by
  rw [UInt8.toNat_ofNat']; omega

theorem pfill_loop {b : Sl} {n : Nat} {p : Nat} {f : UInt8} {cs : Array Value} {H : Heap} {K : Heap → Prop} (h : Owns H 0 ty_uint8 1 b (pgV (List.replicate n 0))) (hn : n < 4611686018427387904) (hp : RowT H p ty_fathomlaw03_Step cs) (hc : cs[4]? = some (.int .u8 (f.toNat : Int)))
    (hK : ∀ H', Owns H' 0 ty_uint8 1 b (pgV (List.replicate n f)) → Mod (ownB b) H H' → K H') :
    LoopVC Int (0 : Int) H fun next i H3 => br (decide (i < (b.n : Int))) (ld (cInt .u8) H3 (Addr.add ⟨p, 0, none⟩ 4) fun (x_8 : Int) => optK b.a fun a => (0 ≤ i ∧ i < (b.n : Int)) ∧ st H3 (a.add (i.toNat * 1)) (.int .u8 x_8) fun H4 => next (IntKind.i64.wrap (i + (1 : Int))) H4) (K H3) := by
  have hbn : b.n = n := by have := h.1; simp [pgV] at this; omega
  have hpb : ∀ q, ownB b q → q ≠ p := fun q hq e => by
    obtain ⟨c, r⟩ := h.obj q hq
    rw [e] at r
    exact absurd (cells_ty hp r) (by decide)
  refine loop_upto n (fun k i H3 => i = (k : Int) ∧ Owns H3 0 ty_uint8 1 b (pgV (List.replicate k f ++ List.replicate (n - k) 0)) ∧ Mod (ownB b) H H3) ⟨rfl, by simpa using h, .refl _ _⟩ ?_
  rintro k _ H3 next hk ⟨rfl, o, m⟩ hnext
  refine br_mk (fun hc' => ?_) (fun hc' => ?_)
  · have hlt : k < n := by rw [hbn] at hc'; simpa using hc'
    have p3 : RowT H3 p ty_fathomlaw03_Step cs := hp.mod m (fun hb => hpb _ hb rfl)
    refine p3.ld (c := cInt .u8) (i := 4) (x := (f.toNat : Int)) hc ?_
    refine o.st (by omega) (by omega) rfl fun H4 o4 m4 s4 => ?_
    refine hnext hlt _ _ ⟨succ64 k (by omega), ?_, m.trans m4⟩
    rw [Int.toNat_natCast, pgV_set] at o4
    have e : (List.replicate k f ++ List.replicate (n - k) (0 : UInt8)).set k f = List.replicate (k + 1) f ++ List.replicate (n - (k + 1)) 0 := by
      rw [List.set_append_right _ _ (by simp)]
      simp only [List.length_replicate, Nat.sub_self]
      rw [show n - k = (n - (k + 1)) + 1 by omega, List.replicate_succ, List.set_cons_zero, List.replicate_succ', List.append_assoc]
      rfl
    rw [e] at o4
    exact o4
  · have hge : k = n := by rw [hbn] at hc'; simp at hc'; omega
    subst hge
    simp only [Nat.sub_self, List.replicate_zero, List.append_nil] at o
    exact hK H3 o m

/-- What a step puts. -/
def stepB (page fill : Int) : List UInt8 := List.replicate (page.emod 600).toNat (UInt8.ofNat fill.toNat)
theorem pbytes_ok {x x2 x3 x4 : Int} {x1 : ByteArray} {H : Heap} {K : Sl → Heap → Prop} (h4 : 0 ≤ x4 ∧ x4 < 256)
    (hK : ∀ b H', SlE EB ty_uint8 H' b (stepB x2 x4) → Ext H H' → (∀ q, ownB b q → H.size ≤ q) → K b H') : fathomlaw03_Step_bytes.sp x x1 x2 x3 x4 H K := by
  refine fathomlaw03_Step_bytes.of ?_
  unfold fathomlaw03_Step_bytes.vc
  refine newC_rowT fun H1 s1 r1 m1 => ?_
  refine r1.ld (c := cInt .i64) (i := 2) (x := x2) rfl ?_
  refine PickN_ok (by decide) ?_
  rw [if_neg (by decide)]
  have h1 := Int.emod_nonneg x2 (show (600 : Int) ≠ 0 by decide)
  have h2 := Int.emod_lt_of_pos x2 (show (0 : Int) < 600 by decide)
  have e0 : x2 % 600 = x2.emod 600 := rfl
  rw [e0] at h1 h2
  refine elByte1.make (base := 0) h1 (Int.le_refl _) (by omega) (by omega) (Nat.zero_le _) fun b H2 hn o e f _ => ?_
  have hf := ofNat_u8 h4
  have hcell : (#[Value.int .i64 x, .string x1, .int .i64 x2, .int .i64 x3, .int .u8 x4] : Array Value)[4]? = some (.int .u8 ((UInt8.ofNat x4.toNat).toNat : Int)) := by rw [hf]; rfl
  refine pfill_loop (n := (x2.emod 600).toNat) (f := UInt8.ofNat x4.toNat) (by rw [pgV_rep]; exact o) (by omega) (r1.ext e) hcell fun H3 o3 m3 => ?_
  refine hK b H3 (SlB_of o3) ⟨?_, fun q hq _ => (m3.same q (by have := e.size; omega) fun hh => ?_).trans ((e.same q (by omega) id).trans (m1.same q hq id))⟩ (fun q hq => by have := f q hq; omega)
  · have := e.size; have := m3.size; omega
  · have := f q hh; omega

theorem pPin_none {n : ByteArray} {k : Int} {H : Heap} {K : (Int × Int) → Heap → Prop} (hK : K (0, 1) H) : pool_Pool_Pin.sp none n k H K := by
  refine pool_Pool_Pin.of ?_
  unfold pool_Pool_Pin.vc
  exact ready_pool_none (br_t rfl hK)
theorem pFresh_none {n : ByteArray} {H : Heap} {K : (Int × Int × Int) → Heap → Prop} (hK : K (0, 0, 1) H) : pool_Pool_Fresh.sp none n H K := by
  refine pool_Pool_Fresh.of ?_
  unfold pool_Pool_Fresh.vc
  exact ready_pool_none (br_t rfl hK)
theorem pheld_none {k : Int} {H : Heap} {K : (Option Addr × Int) → Heap → Prop} (hK : K (none, 1) H) : pool_Pool_held.sp none k H K := by
  refine pool_Pool_held.of ?_
  unfold pool_Pool_held.vc
  exact ready_pool_none (br_t rfl hK)
theorem pGet_none {k : Int} {H : Heap} {K : (Int × Sl × Int) → Heap → Prop} (hK : K (0, Sl.mk none 0 0, 1) H) : pool_Pool_Get.sp none k H K := by
  refine pool_Pool_Get.of ?_
  unfold pool_Pool_Get.vc
  exact pheld_none (br_t rfl hK)
theorem pPut_none {k kd : Int} {b : Sl} {H : Heap} {K : Int → Heap → Prop} (hK : K 1 H) : pool_Pool_Put.sp none k kd b H K := by
  refine pool_Pool_Put.of ?_
  unfold pool_Pool_Put.vc
  exact pheld_none (br_t rfl hK)
theorem pUnpin_none {k : Int} {H : Heap} {K : Int → Heap → Prop} (hK : K 1 H) : pool_Pool_Unpin.sp none k H K := by
  refine pool_Pool_Unpin.of ?_
  unfold pool_Pool_Unpin.vc
  exact pheld_none (br_t rfl hK)
theorem pFlush_none {n : ByteArray} {H : Heap} {K : Int → Heap → Prop} (hK : K 1 H) : pool_Pool_Flush.sp none n H K := by
  refine pool_Pool_Flush.of ?_
  unfold pool_Pool_Flush.vc
  exact ready_pool_none (br_t rfl hK)
theorem pDrop_none {n : ByteArray} {H : Heap} {K : Int → Heap → Prop} (hK : K 1 H) : pool_Pool_Drop.sp none n H K := by
  refine pool_Pool_Drop.of ?_
  unfold pool_Pool_Drop.vc
  exact ready_pool_none (br_t rfl hK)
theorem pResident_none {H : Heap} {K : Int → Heap → Prop} (hK : K 0 H) : pool_Pool_Resident.sp none H K := by
  refine pool_Pool_Resident.of ?_
  unfold pool_Pool_Resident.vc
  exact br_t rfl hK
theorem pPinned_none {H : Heap} {K : Int → Heap → Prop} (hK : K 0 H) : pool_Pool_Pinned.sp none H K := by
  refine pool_Pool_Pinned.of ?_
  unfold pool_Pool_Pinned.vc
  exact br_f rfl hK
theorem pPeak_none {H : Heap} {K : Int → Heap → Prop} (hK : K 0 H) : pool_Pool_Peak.sp none H K := by
  refine pool_Pool_Peak.of ?_
  unfold pool_Pool_Peak.vc
  exact br_t rfl hK
theorem pFrames_none {H : Heap} {K : Int → Heap → Prop} (hK : K 0 H) : pool_Pool_Frames.sp none H K := by
  refine pool_Pool_Frames.of ?_
  unfold pool_Pool_Frames.vc
  exact br_t rfl hK
theorem pDisk_none {H : Heap} {K : Option Addr → Heap → Prop} (hK : K none H) : pool_Pool_Disk.sp none H K := by
  refine pool_Pool_Disk.of ?_
  unfold pool_Pool_Disk.vc
  exact br_t rfl hK

theorem PoolNone_ok {x x2 x3 x4 frames : Int} {x1 : ByteArray} {H : Heap} {K : Bool → Heap → Prop} (hg : Gl H) (h4 : 0 ≤ x4 ∧ x4 < 256) (hK : ∀ B, Ext H B → K true B) : fathomlaw03_PoolNone.sp x x1 x2 x3 x4 frames H K := by
  refine fathomlaw03_PoolNone.of ?_
  unfold fathomlaw03_PoolNone.vc
  refine newC_rowT fun H1 s1 r1 m1 => ?_
  refine r1.ld (c := cStr) (i := 1) (x := x1) rfl ?_
  refine r1.ld (c := cInt .i64) (i := 2) (x := x2) rfl ?_
  refine pPin_none ?_
  refine r1.ld (c := cStr) (i := 1) (x := x1) rfl ?_
  refine pFresh_none ?_
  refine r1.ld (c := cInt .i64) (i := 3) (x := x3) rfl ?_
  refine pGet_none ?_
  refine PoolNew_nil ?_
  refine br_t rfl (br_t rfl ?_)
  refine pResident_none (br_t rfl ?_)
  refine pPinned_none (br_t rfl ?_)
  refine pPeak_none (br_t rfl ?_)
  refine pFrames_none (br_t rfl ?_)
  refine pDisk_none ?_
  refine ⟨fun A => RowT A H.size ty_fathomlaw03_Step #[(.int .i64 x), (.string x1), (.int .i64 x2), (.int .i64 x3), (.int .u8 x4)], r1, ?_⟩
  refine br_t rfl ?_
  refine ⟨x3, fun A hA => by rw [add_lit0]; exact hA.cell rfl, ?_⟩
  refine ⟨x4, fun A hA => by rw [add_lit0]; exact hA.cell rfl, ?_⟩
  refine RowT.ldA (x := (x, x1, x2, x3, x4)) r1 rfl rfl ?_
  refine pbytes_ok h4 fun b H2 o2 m2 f2 => ?_
  have r2 := r1.ext m2
  refine ⟨r2, pPut_none (br_t rfl ?_)⟩
  refine r2.ld (c := cInt .i64) (i := 3) (x := x3) rfl ?_
  refine pUnpin_none (br_t rfl ?_)
  refine r2.ld (c := cStr) (i := 1) (x := x1) rfl ?_
  refine pFlush_none (br_t rfl ?_)
  refine r2.ld (c := cStr) (i := 1) (x := x1) rfl ?_
  refine pDrop_none (br_t rfl ?_)
  exact pworks_ok (hg.mod (m1.trans m2) id) fun H3 m3 => hK H3 ((m1.trans m2).trans m3)

end Go.Proofs.YtbhddkmfhampbaaGreatDoor
