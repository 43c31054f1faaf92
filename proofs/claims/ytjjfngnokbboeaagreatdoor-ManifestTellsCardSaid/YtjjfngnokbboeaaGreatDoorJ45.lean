/-
  The document's pages: the walk of their sum, of what seals them, of what opens them.
-/
import Derived.Test.YtjjfngnokbboeaaGreatDoorJ26
import Derived.Test.YtjjfngnokbboeaaGreatDoorJ38
import Derived.Test.YtjjfngnokbboeaaGreatDoorJ39
import Derived.Test.YtjjfngnokbboeaaGreatDoorJ43
import Derived.Test.YtjjfngnokbboeaaGreatDoorFxs
namespace Go.Proofs.YtjjfngnokbboeaaGreatDoor

theorem iand1 (a : BitVec 32) : iand .u32 (a.toNat : Int) 1 = ((a.toNat % 2 : Nat) : Int) := by
  unfold iand
  show IntKind.u32.wrap ((BitVec.ofInt 32 (a.toNat : Int) &&& 1#32).toNat : Int) = _
  have h1 : (1#32).toNat = 2 ^ 1 - 1 := by decide
  rw [toNat32, BitVec.toNat_and, h1, Nat.and_two_pow_sub_one_eq_mod]
  exact wrap32 (by omega)
theorem lsb_mod (a : BitVec 32) : a.getLsbD 0 = decide (a.toNat % 2 = 1) := by
  rw [BitVec.getLsbD]
  simp [Nat.testBit_zero]
/-- Bits, one by one. -/
def bits (r : BitVec 32) : Nat → BitVec 32
  | 0 => r
  | n + 1 => bit1 (bits r n)
theorem bits8 (r : BitVec 32) : bits r 8 = bit4 (bit4 r) := rfl
theorem shr1 (a : BitVec 32) : ishr .u32 (a.toNat : Int) 1 = ((a >>> 1).toNat : Int) := by
  rw [show (1 : Int) = ((1 : Nat) : Int) from rfl, ishr32 a 1 (by decide), BitVec.toNat_ushiftRight, Nat.shiftRight_eq_div_pow]

theorem RSum_ok {s : Sl} {l : List UInt8} {H : Heap} {K : Int → Heap → Prop} (hb : Byts H s l) (hl : l.length < 4611686018427387904) (hK : K ((sumB l).toNat : Int) H) : fathomref02_Sum.sp s H K := by
  refine fathomref02_Sum.of ?_
  unfold fathomref02_Sum.vc
  have hn := hb.n
  refine loop_upto l.length (fun k x H1 => H1 = H ∧ x = (((crcL (l.take k)).toNat : Int), (k : Int))) ⟨rfl, rfl⟩ ?_
  rintro k _ H1 next hk ⟨rfl, rfl⟩ hnext
  refine br_mk (fun hc => ?_) (fun hc => ?_)
  · have hlt : k < l.length := by rw [hn] at hc; simpa using hc
    refine byte_of hb hlt rfl fun ad ha => ?_
    have hc8 : (l[k]).toNat < 256 := (l[k]).toNat_lt
    have e0 : ixor .u32 ((crcL (l.take k)).toNat : Int) (IntKind.u32.wrap (((l[k]).toNat : Nat) : Int)) = ((crcL (l.take k) ^^^ BitVec.ofNat 32 (l[k]).toNat).toNat : Int) := by
      rw [wrap32 (by omega), ← toNat_ofNat32 l[k], ixor32, toNat_ofNat32]
    simp only [e0]
    generalize hr : crcL (l.take k) ^^^ BitVec.ofNat 32 (l[k]).toNat = r
    refine loop_upto 8 (fun j x H2 => H2 = H1 ∧ x = (((bits r j).toNat : Int), (j : Int))) ⟨rfl, rfl⟩ ?_
    rintro j _ _ next2 hj ⟨rfl, rfl⟩ hnext2
    refine br_mk (fun hc2 => ?_) (fun hc2 => ?_)
    · have hj8 : j < 8 := by simp at hc2; omega
      rw [iand1, shr1]
      have hb1 : bits r (j + 1) = bit1 (bits r j) := rfl
      generalize hq : bits r j = q at *
      refine br_mk (fun h1 => ?_) (fun h1 => ?_)
      · have hm : q.toNat % 2 = 1 := by simp at h1; omega
        refine hnext2 hj8 _ _ ⟨rfl, ?_⟩
        rw [succ64 j (by omega), show (3988292384 : Int) = (poly.toNat : Int) from rfl, ixor32, hb1]
        unfold bit1
        rw [lsb_mod, hm]; rfl
      · have hm : q.toNat % 2 = 0 := by simp at h1; omega
        refine hnext2 hj8 _ _ ⟨rfl, ?_⟩
        rw [succ64 j (by omega), hb1]
        unfold bit1
        rw [lsb_mod, hm]; simp
    · have hj8 : j = 8 := by simp at hc2; omega
      subst hj8
      refine hnext hlt _ _ ⟨rfl, ?_⟩
      rw [succ64 k (by omega), List.take_succ_eq_append_getElem hlt, crcL_snoc, bits8]
      unfold crc8
      rw [hr]
  · have hge : k = l.length := by rw [hn] at hc; simp at hc; omega
    rw [hge, List.take_of_length_le (Nat.le_refl _)]
    have e : ixor .u32 ((crcL l).toNat : Int) (4294967295 : Int) = ((sumB l).toNat : Int) := by
      rw [show (4294967295 : Int) = ((BitVec.allOnes 32).toNat : Int) from rfl, ixor32, BitVec.xor_comm]
      congr 2
    rw [e]; exact hK

theorem zc_byte : ∀ inf z, Tryz.prog.info? ty_uint8 = some inf → inf.zero = some z → z.cells.toList = EB.enc 0 := by
  intro inf z h1 h2
  have h : ((Tryz.prog.info? ty_uint8).bind fun i => i.zero) = some (.int .u8 0) := by kernel_rfl
  rw [h1, Option.bind_some, h2] at h
  cases h; rfl
theorem under_int : Tryz.prog.underlying ty_int = some (.int .i64) := by kernel_rfl

theorem RSeal_ok {kind : UInt8} {s : Sl} {l : List UInt8} {H : Heap} {K : Sl × Int → Heap → Prop} (hb : Byts H s l) (hlen : l.length ≤ 504)
    (hK : ∀ s' H', SlE EB ty_uint8 H' s' (sealP kind l) → Ext H H' → (∀ b, ownB s' b → H.size ≤ b) → K (s', 0) H') : fathomref02_Seal.sp (kind.toNat : Int) s H K := by
  refine fathomref02_Seal.of ?_
  unfold fathomref02_Seal.vc
  have hn := hb.n
  refine br_f (by simp; omega) ?_
  have v4 : IntKind.u8.wrap (Int.tmod (s.n : Int) 256) = ((UInt8.ofNat l.length).toNat : Int) := by
    have : Int.tmod (s.n : Int) 256 = ((l.length % 256 : Nat) : Int) := by rw [hn]; rfl
    rw [this, wrap8]
    congr 1
    rw [UInt8.toNat_ofNat', UInt8.toNat_ofNat']; omega
  have v5 : IntKind.u8.wrap (IntKind.i64.wrap (Int.tdiv (s.n : Int) 256)) = ((UInt8.ofNat (l.length / 256)).toNat : Int) := by
    have : Int.tdiv (s.n : Int) 256 = ((l.length / 256 : Nat) : Int) := by rw [hn]; rfl
    rw [this, wrap64 (by omega) (by omega), wrap8]
  rw [v4, v5]
  refine newC_rowT fun H1 s1 r1 e1 => ?_
  have b1 : Byts H1 s l := hb.keep fun ad _ hl => e1.same _ hl id
  have o1 : SlE EB ty_uint8 H1 (Sl.mk (some ⟨H.size, 0, none⟩) 4 4) [UInt8.ofNat l.length, UInt8.ofNat (l.length / 256), kind, 157] :=
    ⟨rfl, .inr ⟨H.size, 4, _, rfl, Nat.zero_le _, r1, Nat.le_refl _, by unfold maxLen; omega, rfl, rfl⟩⟩
  refine SlE.append (E := EB) elByte (s := Sl.mk (some ⟨H.size, 0, none⟩) 4 4) (x := s) o1 (by rw [RdE, EB_all]; exact b1.cells) hn (by simp; omega) (by simp; omega) fun rest H2 o2 g2 _ => ?_
  have hn2 := o2.n (by decide)
  have hn2' : rest.n = 4 + l.length := by simp at hn2; omega
  have hw : IntKind.i64.wrap ((508 : Int) - (rest.n : Int)) = ((504 - l.length : Nat) : Int) := by rw [wrap64 (by omega) (by omega)]; omega
  rw [hw]
  refine SlE.appendZ (E := EB) (x0 := 0) elByte under_int zc_byte o2 (by decide) (by simp; omega) fun rest2 H3 o3 g3 => ?_
  have hbody : [UInt8.ofNat l.length, UInt8.ofNat (l.length / 256), kind, 157] ++ l ++ List.replicate (504 - l.length) 0 = bodyP kind l := rfl
  rw [hbody] at o3
  have hbl := bodyP_length (kind := kind) hlen
  have z1 := e1.size; have z2 := g2.1.size; have z3 := g3.1.size
  have f2 : ∀ b, ownB rest b → H.size ≤ b := fun b hb => by
    rcases g2.2 b hb with ⟨ad, q1, q2⟩ | q
    · cases q1; have : H.size = b := q2; omega
    · omega
  have f3 : ∀ b, ownB rest2 b → H.size ≤ b := fun b hb => by
    rcases g3.2 b hb with q | q
    · exact f2 b q
    · omega
  have m03 : Ext H H3 := ⟨by omega, fun b hb _ => (g3.1.same b (by omega) fun hh => by have := f2 b hh; omega).trans ((g2.1.same b (by omega) (by rintro ⟨ad, q1, q2⟩; cases q1; have : H.size = b := q2; omega)).trans (e1.same b hb id))⟩
  refine RSum_ok (SlB_byts o3) (by omega) ?_
  refine loop_upto 4 (fun k x H5 => x.2 = (k : Int) ∧ SlE EB ty_uint8 H5 x.1 ((le4 (sumB (bodyP kind l))).take k) ∧ Mod (fun _ => False) H3 H5 ∧ ∀ b, ownB x.1 b → H3.size ≤ b) ⟨rfl, SlE.nil _ _ _, .refl _ _, by rintro b ⟨ad, q, _⟩; cases q⟩ ?_
  rintro k ⟨out, i⟩ H5 next hk ⟨hi, o5, m5, f5⟩ hnext
  simp only at hi
  subst hi
  simp only at o5 f5 hnext ⊢
  have z5 := m5.size
  have h4 : (le4 (sumB (bodyP kind l))).length = 4 := rfl
  refine br_mk (fun hc => ?_) (fun hc => ?_)
  · have hk4 : k < 4 := by simp at hc; omega
    have hw8 : IntKind.i64.wrap ((8 : Int) * (k : Int)) = ((8 * k : Nat) : Int) := by rw [wrap64 (by omega) (by omega)]; omega
    rw [hw8]
    refine ⟨by omega, ?_⟩
    have hv : (le4 (sumB (bodyP kind l)))[k]? = some (UInt8.ofNat ((sumB (bodyP kind l)).toNat / 2 ^ (8 * k))) := by
      have : k = 0 ∨ k = 1 ∨ k = 2 ∨ k = 3 := by omega
      rcases this with rfl | rfl | rfl | rfl <;> simp [le4]
    rw [ishr32 _ (8 * k) (by omega), wrap8]
    refine SlE.push (E := EB) elByte (x := UInt8.ofNat ((sumB (bodyP kind l)).toNat / 2 ^ (8 * k))) o5 rfl (by simp; omega) (by simp; omega) fun out2 H7 o7 g7 _ => ?_
    have z7 := g7.1.size
    refine hnext hk4 _ _ ⟨succ64 k (by omega), ?_, ⟨by omega, fun b hb _ => (g7.1.same b (by omega) fun hh => by have := f5 b hh; omega).trans (m5.same b hb id)⟩, fun b hb => ?_⟩
    · have e : (le4 (sumB (bodyP kind l))).take (k + 1) = (le4 (sumB (bodyP kind l))).take k ++ [UInt8.ofNat ((sumB (bodyP kind l)).toNat / 2 ^ (8 * k))] := by
        rw [List.take_add_one, hv]; rfl
      rw [e]; exact o7
    · rcases g7.2 b hb with q | q
      · exact f5 b q
      · omega
  · have hk4 : k = 4 := by simp at hc; omega
    subst hk4
    have o35 : SlE EB ty_uint8 H5 rest2 (bodyP kind l) := o3.ext m5
    refine SlE.append (E := EB) elByte (s := out) (x := rest2) o5 o35.rd (o35.n (by decide)) (by simp [hbl]; omega) (by simp [hbl]; omega) fun out3 H8 o8 g8 _ => ?_
    have z8 := g8.1.size
    refine hK out3 H8 o8 ⟨by omega, fun b hb _ => (g8.1.same b (by omega) fun hh => by have := f5 b hh; omega).trans ((m5.same b (by omega) id).trans (m03.same b hb id))⟩ fun b hb => ?_
    rcases g8.2 b hb with q | q
    · have := f5 b q; omega
    · omega

theorem ROpen_ok {s : Sl} {l : List UInt8} {H : Heap} {K : (Int × Sl × Int) → Heap → Prop} (hb : Byts H s l) (hcap : s.n ≤ s.c) (h512 : l.length = 512)
    (hN : openP l = none → ∀ H', Ext H H' → K (0, Sl.mk none 0 0, 20) H')
    (hK : ∀ k b s' H', openP l = some (k, b) → b.length ≤ 504 → SlE EB ty_uint8 H' s' b → Ext H H' → (∀ b, ownB s' b → H.size ≤ b) → K ((k.toNat : Int), s', 0) H') : fathomref02_Open.sp s H K := by
  refine fathomref02_Open.of ?_
  unfold fathomref02_Open.vc
  have hn := hb.n
  refine br_f (by simp; omega) ?_
  refine byte_of hb (i := 4) (by omega) rfl fun ad4 ha4 => ?_
  refine byte_of hb (i := 5) (by omega) rfl fun ad5 ha5 => ?_
  have c4 : (l[4]).toNat < 256 := (l[4]).toNat_lt
  have c5 : (l[5]).toNat < 256 := (l[5]).toNat_lt
  have hs : sizeP l = (l[4]).toNat + 256 * (l[5]).toNat := by
    unfold sizeP; simp [List.getD, h512]
  have hw : IntKind.i64.wrap ((IntKind.i64.wrap ((l[4]).toNat : Int)) + (IntKind.i64.wrap ((256 : Int) * (IntKind.i64.wrap ((l[5]).toNat : Int))))) = (sizeP l : Int) := by
    rw [wrap64 (x := ((l[4]).toNat : Int)) (by omega) (by omega), wrap64 (x := ((l[5]).toNat : Int)) (by omega) (by omega), wrap64 (x := (256 : Int) * ((l[5]).toNat : Int)) (by omega) (by omega), wrap64 (by omega) (by omega)]
    omega
  rw [hw]
  refine br_mk (fun hc => ?_) (fun hc => ?_)
  · have hgt : 504 < sizeP l := by simp at hc; omega
    exact hN (by unfold openP; rw [if_neg (by omega)]) H (.refl _ _)
  have hle : sizeP l ≤ 504 := by simp at hc; omega
  have hw8 : IntKind.i64.wrap ((8 : Int) + (sizeP l : Int)) = ((8 + sizeP l : Nat) : Int) := by rw [wrap64 (by omega) (by omega)]; omega
  rw [hw8]
  refine ⟨⟨by omega, by omega⟩, ⟨by omega, by omega⟩, ?_⟩
  have hd := (hb.drop hcap 8).take (sizeP l) (by simp only; omega) (s.c - 8)
  have ex : (((8 + sizeP l : Nat) : Int).toNat - (8 : Int).toNat) = sizeP l := by omega
  rw [ex]
  have hdl : ((l.drop 8).take (sizeP l)).length = sizeP l := by simp; omega
  refine SlE.append (E := EB) elByte (s := Sl.mk none 0 0) (x := Sl.mk (slA s.a s.c 8 1) (sizeP l) (s.c - 8)) (l := []) (SlE.nil _ _ _) (by rw [RdE, EB_all]; exact hd.cells) (by rw [hdl]) (by simp; omega) (by simp; omega) fun s1 H1 o1 g1 _ => ?_
  simp only [List.nil_append] at o1
  have e1 : Ext H H1 := g1.1.mono fun b _ hb => by obtain ⟨ad, q, _⟩ := hb; cases q
  have f1 : ∀ b, ownB s1 b → H.size ≤ b := fun b hb => (g1.2 b hb).resolve_left (by rintro ⟨ad, q, _⟩; cases q)
  have b1 : Byts H1 s l := hb.keep fun ad _ hl => e1.same _ hl id
  refine byte_of b1 (i := 6) (by omega) rfl fun ad6 ha6 => ?_
  refine RSeal_ok (SlB_byts o1) (by rw [hdl]; exact hle) fun w H2 o2 e2 f2 => ?_
  have b2 : Byts H2 s l := b1.keep fun ad _ hl => e2.same _ hl id
  have z1 := e1.size; have z2 := e2.size
  have h6 : l.getD 6 0 = l[6] := by simp [List.getD, h512]
  refine strB_eq (SlB_byts o2) ?_
  refine strB_eq b2 ?_
  have hcmp : ((strB (sealP l[6] ((l.drop 8).take (sizeP l)))).toList == (strB l).toList) = decide (sealP l[6] ((l.drop 8).take (sizeP l)) = l) := by
    rw [strB_list, strB_list, Bool.eq_iff_iff, beq_iff_eq, decide_eq_true_iff]
  rw [hcmp]
  refine br_mk (fun hq => ?_) (fun hq => ?_)
  · have hq' : ¬ sealP l[6] ((l.drop 8).take (sizeP l)) = l := by simpa using hq
    exact hN (by unfold openP; rw [h6, if_neg (by rintro ⟨_, q⟩; exact hq' q)]) H2 (e1.trans e2)
  · have hq' : sealP l[6] ((l.drop 8).take (sizeP l)) = l := by simpa using hq
    refine byte_of b2 (i := 6) (by omega) rfl fun ad6 ha6 => ?_
    exact hK l[6] _ s1 H2 (by unfold openP; rw [h6, if_pos ⟨hle, hq'⟩]) (by rw [hdl]; exact hle) (o1.ext e2) (e1.trans e2) f1

end Go.Proofs.YtjjfngnokbboeaaGreatDoor

/-
  The document's disk: rank, Restart, Copy.
-/
namespace Go.Proofs.YtjjfngnokbboeaaGreatDoor
open Go.MapKept

theorem log_ld3 {H : Heap} {z : Sl} {ws : List Wr} (h : SlE EWr ty_fathomref01_Write H z ws) {i : Nat} {w : Wr} (hw : ws[i]? = some w) {K : (Int × Int × ByteArray) → Prop} (hK : K (w.no, (w.page : Int), strB w.b.1)) :
    optK z.a fun a => (0 ≤ (i : Int) ∧ (i : Int) < (z.n : Int)) ∧ ldA (cAgg [(cInt .i64), (cInt .i64), cStr]) 3 H (a.add ((i : Int).toNat * 3)) K := by
  have hn := h.n (by decide)
  have hi := (List.getElem?_eq_some_iff.1 hw).1
  obtain ⟨ad, ha⟩ := RdE.addr h.rd (by decide) (by omega)
  rw [ha]
  refine ⟨⟨by omega, by omega⟩, ?_⟩
  exact RdE.ldA (E := EWr) (c := cAgg [(cInt .i64), (cInt .i64), cStr]) (y := (w.no, (w.page : Int), strB w.b.1)) h.rd ha hw rfl (by simp [EWr]) rfl hK
theorem log_ld1 {H : Heap} {z : Sl} {ws : List Wr} (h : SlE EWr ty_fathomref01_Write H z ws) {i : Nat} {w : Wr} (hw : ws[i]? = some w) {K : Int → Prop} (hK : K w.no) :
    optK z.a fun a => (0 ≤ (i : Int) ∧ (i : Int) < (z.n : Int)) ∧ ld (cInt .i64) H ((a.add ((i : Int).toNat * 3)).add 0) K := by
  have hn := h.n (by decide)
  have hi := (List.getElem?_eq_some_iff.1 hw).1
  obtain ⟨ad, ha⟩ := RdE.addr h.rd (by decide) (by omega)
  rw [ha]
  refine ⟨⟨by omega, by omega⟩, ?_⟩
  exact RdE.ld (E := EWr) (c := cInt .i64) (y := w.no) h.rd ha (j := 0) hw rfl (by simp [EWr]) hK

theorem rank_ok {fl : Sl} {gs : List (Sl × Sl)} {d : Nat} {cs : Array Value} {s : Dk} {no : Int} {H : Heap} {K : Int → Heap → Prop} (hd : RowT H d ty_fathomref01_Disk cs) (hc0 : cs[0]? = some fl.v) (hf : RefFiles H fl gs s.files) (hfl : s.files.length ≤ 4096) (hlogs : s.logs < 68719476736)
    (hK : K (s.rank no : Nat) H) : fathomref01_Disk_rank.sp (at0 d) no H K := by
  refine fathomref01_Disk_rank.of ?_
  unfold fathomref01_Disk_rank.vc
  simp only [optK_eq]
  have hn := hf.n
  obtain ⟨cnt, hcnt⟩ : ∃ cnt : List Int → Nat, cnt = fun l => (l.filter fun x => decide (x < no)).length := ⟨_, rfl⟩
  obtain ⟨pre, hpre⟩ : ∃ pre : Nat → List Int, pre = fun k => (s.files.take k).flatMap fun f => f.log.map (·.no) := ⟨_, rfl⟩
  have cntle : ∀ l, cnt l ≤ l.length := fun l => by rw [hcnt]; exact List.length_filter_le _ _
  have prele : ∀ k, (pre k).length ≤ s.logs := fun k => by
    rw [← Dk.nos_length]
    unfold Dk.nos
    rw [hpre]
    simp only
    conv => rhs; rw [← List.take_append_drop k s.files, List.flatMap_append, List.length_append]
    omega
  refine loop_upto s.files.length (fun k x H1 => x = (((cnt (pre k) : Nat) : Int), (k : Int)) ∧ H1 = H) ⟨by rw [hcnt, hpre]; rfl, rfl⟩ ?_
  rintro k _ H1 next hk ⟨rfl, rfl⟩ hnext
  refine hd.ld (c := cSl) (i := 0) (x := fl) hc0 ?_
  refine br_mk (fun hc => ?_) (fun hc => ?_)
  · have hlt : k < s.files.length := by rw [hn] at hc; simpa using hc
    have hfk : s.files[k]? = some s.files[k] := List.getElem?_eq_getElem hlt
    obtain ⟨f, hfe⟩ : ∃ f, f = s.files[k] := ⟨_, rfl⟩
    rw [← hfe] at hfk
    obtain ⟨gg, hg, _, q2⟩ := hf.gAt hfk
    have hln := q2.n (by decide)
    have hll := Dk.log_le hfk
    have hpk : pre (k + 1) = pre k ++ f.log.map (·.no) := by
      rw [hpre]; simp only
      rw [List.take_succ_eq_append_getElem hlt, ← hfe, List.flatMap_append]; simp
    have cntapp : ∀ a b, cnt (a ++ b) = cnt a + cnt b := fun a b => by rw [hcnt]; simp
    have hp1 := prele (k + 1)
    have hc1 := cntle (pre k)
    refine loop_upto f.log.length (fun j x H2 => x = (((cnt (pre k) + cnt ((f.log.take j).map (·.no)) : Nat) : Int), (j : Int)) ∧ H2 = H1) ⟨by rw [hcnt]; simp, rfl⟩ ?_
    rintro j _ H2 next1 hj ⟨rfl, rfl⟩ hnext1
    refine hd.ld (c := cSl) (i := 0) (x := fl) hc0 ?_
    refine hf.ld1 hfk hg (j := 2) (c := cSl) (y := gg.2) rfl ?_
    refine br_mk (fun hc2 => ?_) (fun hc2 => ?_)
    · have hjl : j < f.log.length := by rw [hln] at hc2; simpa using hc2
      refine hd.ld (c := cSl) (i := 0) (x := fl) hc0 ?_
      refine hf.ld1 hfk hg (j := 2) (c := cSl) (y := gg.2) rfl ?_
      refine log_ld1 q2 (List.getElem?_eq_getElem hjl) ?_
      have htk : cnt ((f.log.take (j + 1)).map (·.no)) = cnt ((f.log.take j).map (·.no)) + (if f.log[j].no < no then 1 else 0) := by
        rw [List.take_succ_eq_append_getElem hjl, List.map_append, cntapp]
        congr 1
        rw [hcnt]
        simp only [List.map_cons, List.map_nil, List.filter_cons, List.filter_nil]
        split <;> rename_i h <;> simp at h <;> simp [h]
      have hc3 := cntle ((f.log.take j).map (·.no))
      simp only [List.length_map, List.length_take] at hc3
      rw [hpk, List.length_append, List.length_map] at hp1
      refine br_mk (fun hb => ?_) (fun hb => ?_)
      · have hb' : f.log[j].no < no := by simpa using hb
        refine hnext1 hjl _ _ ⟨?_, rfl⟩
        rw [htk, if_pos hb', succ64 j (by omega), wrap64 (by omega) (by omega)]
        simp only [Prod.mk.injEq, and_true]; omega
      · have hb' : ¬ f.log[j].no < no := by simpa using hb
        refine hnext1 hjl _ _ ⟨?_, rfl⟩
        rw [htk, if_neg hb', succ64 j (by omega)]
        simp
    · have hge : j = f.log.length := by rw [hln] at hc2; simp at hc2; omega
      rw [hge, List.take_of_length_le (Nat.le_refl _)]
      refine hnext hlt _ _ ⟨?_, rfl⟩
      rw [hpk, cntapp, succ64 k (by omega)]
  · have hge : k = s.files.length := by rw [hn] at hc; simp at hc; omega
    have e : s.rank no = cnt (pre k) := by
      unfold Dk.rank Dk.nos
      rw [hcnt, hpre, hge]
      simp
    rw [e] at hK
    exact hK

set_option maxHeartbeats 1000000 in
theorem RRestart_ok {F : Nat → Prop} {d : Nat} {s : Dk} {H : Heap} {K : Unit → Heap → Prop} (h : RefAt F H d s) (hlogs : s.logs < 68719476736)
    (hK : ∀ F' H', RefAt F' H' d s.restart → Step F F' H H' → K () H') : fathomref01_Disk_Restart.sp (at0 d) H K := by
  have h0 := h
  obtain ⟨fl, gs, cin, kp, g, hF⟩ := h
  refine fathomref01_Disk_Restart.of ?_
  unfold fathomref01_Disk_Restart.vc
  simp only [optK_eq]
  refine g.head.ld (c := cBool) (i := 8) (x := s.down) rfl ?_
  refine br_mk (fun hd => ?_) (fun hd => ?_)
  · have hd' : s.down = false := by simpa using hd
    have e : s.restart = s := by unfold Dk.restart; rw [hd']; rfl
    rw [e] at hK
    exact hK F H h0 (.refl _ _)
  have hd' : s.down = true := by simpa using hd
  obtain ⟨ci, kk, hcr⟩ : ∃ ci kk, s.crash = some (ci, kk) := by
    have := g.wf.down hd'
    cases hc : s.crash with
    | none => rw [hc] at this; cases this
    | some p => exact ⟨p.1, p.2, rfl⟩
  obtain ⟨rfl, rfl⟩ := g.crash ci kk hcr
  have hkeep : s.keep = kp := by unfold Dk.keep; rw [hcr]
  have hn := g.files.n
  have hfl := g.wf.files
  have w1 := g.wf.used; have w2 := g.wf.most; have w3 := g.wf.quota
  refine loop_upto s.files.length (fun k x H1 => x.2 = (k : Int) ∧ Mod (fun _ => False) H H1 ∧ (∀ b, ownB x.1 b → H.size ≤ b) ∧ ∃ gs2, RefFiles H1 x.1 gs2 ((s.files.take k).map s.after) ∧ (∀ gg ∈ gs2, (∀ b, ownB gg.1 b → rfp fl gs b ∨ H.size ≤ b) ∧ gg.2 = Sl.mk none 0 0))
    ⟨rfl, .refl _ _, (by rintro b ⟨ad, q, _⟩; cases q), [], ⟨SlE.nil _ _ _, rfl, by intro i f g h; simp at h, by intro i j g g' h; simp at h⟩, by simp⟩ ?_
  rintro k ⟨z, i⟩ H1 next hk ⟨hi, m1, f1, gs2, R1, fp1⟩ hnext
  simp only at hi
  subst hi
  simp only at f1 R1 hnext ⊢
  have d1 := g.head.ext m1
  have F1 : RefFiles H1 fl gs s.files := g.files.keep fun b hb hl => m1.same b hl id
  refine d1.ld (c := cSl) (i := 0) (x := fl) rfl ?_
  refine br_mk (fun hc => ?_) (fun hc => ?_)
  · have hlt : k < s.files.length := by rw [hn] at hc; simpa using hc
    have hfk : s.files[k]? = some s.files[k] := List.getElem?_eq_getElem hlt
    obtain ⟨f, hfe⟩ : ∃ f, f = s.files[k] := ⟨_, rfl⟩
    rw [← hfe] at hfk
    obtain ⟨gg, hg, q1, q2⟩ := F1.gAt hfk
    have hrow := rfs_get _ _ k f gg hfk hg
    have hln := q2.n (by decide)
    have hpl := Dk.pages_le hfk; have hll := Dk.log_le hfk
    have hgm := List.mem_of_getElem? hg
    obtain ⟨ad, ha⟩ := RdE.addr F1.arr.rd (by decide) (by have := (List.getElem?_eq_some_iff.1 hrow).1; omega)
    refine ⟨fun A => RowT A d ty_fathomref01_Disk (headR fl s.most s.quota s.ops s.next s.crash.isSome cin kp s.down) ∧ SlE ERf ty_fathomref01_File A fl (rfs s.files gs), ⟨d1, F1.arr⟩, ?_⟩
    refine ⟨fl, fun A hA => by rw [add_lit0]; exact hA.1.cell rfl, ?_⟩
    refine optK_mk ad ha ⟨⟨by omega, by omega⟩, ?_⟩
    refine ⟨f.name, fun A hA => ?_, ?_⟩
    · obtain ⟨ad', e1, hc⟩ := RdE.cell hA.2.rd hrow (j := 0) (v := .string f.name) rfl
      rw [ha] at e1; cases e1
      rw [add_add]; exact hc
    refine ⟨fl, fun A hA => by rw [add_lit0]; exact hA.1.cell rfl, ?_⟩
    refine optK_mk ad ha ⟨⟨by omega, by omega⟩, ?_⟩
    refine ⟨gg.1, fun A hA => ?_, ?_⟩
    · obtain ⟨ad', e1, hc⟩ := RdE.cell hA.2.rd hrow (j := 1) (v := gg.1.v) rfl
      rw [ha] at e1; cases e1
      rw [add_add]; exact hc
    refine newC_rowT fun H2 s2 r2 m2 => ⟨⟨d1.ext m2, F1.arr.ext m2⟩, ?_⟩
    refine r2.stAll (cs := #[.string f.name, gg.1.v, .slice none 0 0]) (by kernel_rfl) (by kernel_rfl) (by intro v hv; simp at hv; rcases hv with rfl | rfl | rfl <;> rfl) fun H3 r3 m3 s3 => ?_
    obtain ⟨p, hp⟩ : ∃ p, p = H1.size := ⟨_, rfl⟩
    rw [← hp] at r3 m3
    rw [← hp]
    have z1 := m1.size; have z2 := m2.size
    have m13 : Mod (fun _ => False) H1 H3 := ⟨by omega, fun b hb _ => (m3.same b (by omega) (by omega)).trans (m2.same b hb id)⟩
    obtain ⟨q, hq⟩ : ∃ q : Wr → Bool, q = fun w => keepBit s.keep (s.rank w.no) := ⟨_, rfl⟩
    have haft : s.after f = ⟨f.name, (f.log.filter q).foldl putP f.synced, []⟩ := by rw [hq]; rfl
    have q13 : SlE EStr ty_string H3 gg.1 f.synced := q1.ext m13
    -- the writes, one by one
    refine loop_upto f.log.length (fun j x H4 => x = (j : Int) ∧ Mod (fun b => b = p) H3 H4 ∧ ∃ sy, RowT H4 p ty_fathomref01_File #[.string f.name, sy.v, .slice none 0 0] ∧ SlE EStr ty_string H4 sy (((f.log.take j).filter q).foldl putP f.synced) ∧ (∀ b, ownB sy b → rfp fl gs b ∨ H.size ≤ b) ∧ (∀ b, ownB sy b → b ≠ p))
      ⟨rfl, .refl _ _, gg.1, r3, by simpa using q13, fun b hb => .inl (.inr ⟨gg, hgm, .inl hb⟩), fun b hb => by have := q1.lt b hb; omega⟩ ?_
    rintro j _ H4 next1 hj ⟨rfl, m4, sy, r4, o4, fy, ny⟩ hnext1
    have m14 : Mod (fun _ => False) H1 H4 := ⟨by have := m4.size; omega, fun b hb _ => (m4.same b (by omega) (by omega)).trans (m13.same b hb id)⟩
    have d4 := d1.ext m14
    have F4 : RefFiles H4 fl gs s.files := F1.keep fun b hb hl => m14.same b hl id
    obtain ⟨_, q24⟩ := F4.ent k f gg hfk hg
    have z4 := m14.size
    refine d4.ld (c := cSl) (i := 0) (x := fl) rfl ?_
    refine F4.ld1 hfk hg (j := 2) (c := cSl) (y := gg.2) rfl ?_
    refine br_mk (fun hc1 => ?_) (fun hc1 => ?_)
    · have hjl : j < f.log.length := by rw [hln] at hc1; simpa using hc1
      obtain ⟨w, hwe⟩ : ∃ w, w = f.log[j] := ⟨_, rfl⟩
      have hw : f.log[j]? = some w := by rw [hwe]; exact List.getElem?_eq_getElem hjl
      refine d4.ld (c := cSl) (i := 0) (x := fl) rfl ?_
      refine F4.ld1 hfk hg (j := 2) (c := cSl) (y := gg.2) rfl ?_
      refine log_ld3 q24 hw ?_
      refine newC_rowT fun H5 s5 r5 m5 => ?_
      refine r5.stAll (cs := #[.int .i64 w.no, .int .i64 w.page, .string (strB w.b.1)]) (by kernel_rfl) (by kernel_rfl) (by intro v hv; simp at hv; rcases hv with rfl | rfl | rfl <;> rfl) fun H6 r6 m6 s6 => ?_
      have m46 : Mod (fun _ => False) H4 H6 := ⟨by omega, fun b hb _ => (m6.same b (by omega) (by omega)).trans (m5.same b hb id)⟩
      have d6 := d4.ext m46
      have F6 : RefFiles H6 fl gs s.files := F4.keep fun b hb hl => m46.same b hl id
      refine ⟨fun A => RowT A d ty_fathomref01_Disk (headR fl s.most s.quota s.ops s.next s.crash.isSome cin kp s.down), d6, ?_⟩
      refine ⟨kp, fun A hA => by rw [add_lit0]; exact hA.cell rfl, ?_⟩
      refine r6.ld (c := cInt .i64) (i := 0) (x := w.no) rfl ?_
      refine rank_ok d6 rfl F6 hfl hlogs ⟨d6, ?_⟩
      refine ⟨Int.tmod_nonneg _ (by omega), ?_⟩
      have hqw : q w = ((iand .u64 (ishr .u64 kp (Int.tmod ((s.rank w.no : Nat) : Int) 64)) 1) == 1) := by rw [hq, hkeep]; rfl
      have htk : (f.log.take (j + 1)).filter q = (f.log.take j).filter q ++ (if q w then [w] else []) := by
        rw [List.take_succ_eq_append_getElem hjl, List.filter_append, ← hwe]
        cases hqb : q w <;> simp [hqb]
      have r46 := r4.ext m46
      have o46 : SlE EStr ty_string H6 sy (((f.log.take j).filter q).foldl putP f.synced) := o4.ext m46
      refine br_mk (fun hb => ?_) (fun hb => ?_)
      · have hqt : q w = true := by rw [hqw]; exact hb
        refine r46.ld (c := cSl) (i := 1) (x := sy) rfl ?_
        refine r6.ldA (c := cAgg [(cInt .i64), (cInt .i64), cStr]) (x := (w.no, (w.page : Int), strB w.b.1)) rfl rfl ?_
        have hpg := puts_page f.log f.synced w (List.mem_of_getElem? hw)
        have hle := puts_take f.log q j f.synced
        have hpe : (f.log.foldl putP f.synced).length = f.pages.length := rfl
        refine putR_ok (w := w) o46 (by omega) (by omega) fun s7 H7 o7 m7 f7 => ?_
        have r47 := r46.ext m7
        refine r47.st (i := 1) (by simp) (by rfl) fun H8 r8 m8 s8 => ?_
        have z7 := m7.size
        have hpl4 := obj_lt r4
        refine hnext1 hjl _ _ ⟨succ64 j (by omega), ((m4.trans (Ext.mod m46)).trans (Ext.mod m7)).trans m8, s7, (show RowT H8 p ty_fathomref01_File #[.string f.name, s7.v, .slice none 0 0] from r8), ?_, fun b hb => by have := f7 b hb; right; omega, fun b hb => by have := f7 b hb; omega⟩
        rw [htk, if_pos hqt, List.foldl_append]
        exact o7.keep fun b hb hl => m8.same b hl (by have := f7 b hb; omega)
      · have hqt : q w = false := by rw [hqw]; exact hb
        refine hnext1 hjl _ _ ⟨succ64 j (by omega), m4.trans (Ext.mod m46), sy, r46, ?_, fy, ny⟩
        rw [htk, hqt]
        simpa using o46
    · have hge : j = f.log.length := by rw [hln] at hc1; simp at hc1; omega
      rw [hge, List.take_of_length_le (Nat.le_refl _)] at o4
      refine r4.ldA (c := cAgg [cStr, cSl, cSl]) (x := (f.name, sy, Sl.mk none 0 0)) rfl rfl ?_
      have R4 : RefFiles H4 z gs2 ((s.files.take k).map s.after) := R1.keep fun b hb hl => m14.same b hl id
      have hzl : (rfs ((s.files.take k).map s.after) gs2).length = k := by
        rw [rfs_length _ _ R4.len]; simp; omega
      refine SlE.push (E := ERf) elRf (x := (f.name, sy, Sl.mk none 0 0)) R4.arr rfl (by omega) (by omega) fun z5 H5 o5 g5 _ => ?_
      have z5s := g5.1.size
      have zty : ∀ b, ownB sy b → ¬ ownB z b := o4.apart R4.arr (by decide)
      have m15 : Mod (fun _ => False) H H5 := ⟨by omega, fun b hb _ => (g5.1.same b (by omega) fun hh => by have := f1 b hh; omega).trans ((m14.same b (by omega) id).trans (m1.same b hb id))⟩
      have R5 := R4.push (H' := H5) (fl' := z5) (f := s.after f) (g := (sy, Sl.mk none 0 0)) (by rw [haft]; exact o5) (by rw [haft]; exact o4.keep fun b hb hl => g5.1.same b hl (zty b hb)) (by rw [haft]; exact SlE.nil _ _ _)
        (fun b hb hl => g5.1.same b hl fun hh => by
          obtain ⟨gj, hgj, hb⟩ := hb
          obtain ⟨i2, hi2⟩ := List.mem_iff_getElem?.1 hgj
          exact R4.arrOff hi2 b hb hh) (by rintro b ⟨ad, q, _⟩; cases q)
      refine hnext hlt _ _ ⟨succ64 k (by omega), m15, fun b hb => ?_, gs2 ++ [(sy, Sl.mk none 0 0)], ?_, ?_⟩
      · rcases g5.2 b hb with h | h
        · exact f1 b h
        · omega
      · rw [List.take_succ_eq_append_getElem hlt, ← hfe, List.map_append]
        exact R5
      · intro g' hg'
        rcases List.mem_append.1 hg' with h | h
        · exact fp1 g' h
        · simp at h; subst h; exact ⟨fy, rfl⟩
  · have hge : k = s.files.length := by rw [hn] at hc; simp at hc; omega
    rw [hge, List.take_of_length_le (Nat.le_refl _)] at R1
    have hdl := obj_lt g.head
    refine d1.st (i := 0) (by simp [headR]) (by rfl) fun H2 r2 m2 s2 => ?_
    refine r2.st (i := 8) (by simp [headR]) (by rfl) fun H3 r3 m3 s3 => ?_
    refine r3.st (i := 5) (by simp [headR]) (by rfl) fun H4 r4 m4 s4 => ?_
    have m14 : Mod (fun b => b = d) H1 H4 := (m2.trans m3).trans m4
    have off : ¬ rfp z gs2 d := by
      rintro (q | ⟨gj, hgj, q | q⟩)
      · have := f1 d q; omega
      · rcases (fp1 gj hgj).1 d q with h | h
        · exact RefG.off g.head g.files h
        · omega
      · rw [(fp1 gj hgj).2] at q
        obtain ⟨ad, q, _⟩ := q; cases q
    have hr : s.restart = { s with files := s.files.map s.after, down := false, crash := none } := by unfold Dk.restart; rw [hd']; rfl
    have hule : s.restart.used ≤ s.used := by
      rw [hr]
      show ((s.files.map s.after).map fun f => f.pages.length).sum ≤ s.used
      rw [List.map_map]
      exact sum_map_le _ _ _ fun f _ => s.after_le f
    have gG : RefG z gs2 cin kp H4 d s.restart := by
      refine ⟨?_, ?_, ?_, ?_⟩
      · rw [hr]; exact r4
      · rw [hr]; intro i k q; cases q
      · rw [hr]; exact R1.keep fun b hb hl => m14.same b hl fun e => off (e ▸ hb)
      · refine ⟨?_, Nat.le_trans hule (by rw [hr]; exact w1), by rw [hr]; exact w2, by rw [hr]; exact w3, by rw [hr]; simp; exact hfl, (by rw [hr]; intro h; cases h), (by rw [hr]; intro i k q; cases q)⟩
        rw [hr]
        simp only [List.map_map]
        exact g.wf.nodup
    have hmm : Mod F H H4 := (Ext.mod m1).trans (m14.mono fun b _ e => (hF b).2 (.inl e))
    obtain ⟨F', t1, t2⟩ := gG.out (fl := fl) (gs := gs) (F := F) (H := H) hF hmm (by
      rintro b (q | ⟨gj, hgj, q | q⟩)
      · exact .inr (f1 b q)
      · exact (fp1 gj hgj).1 b q
      · rw [(fp1 gj hgj).2] at q
        obtain ⟨ad, q, _⟩ := q; cases q)
    exact hK F' H4 t1 t2

end Go.Proofs.YtjjfngnokbboeaaGreatDoor

/-
  The document's byte files: the walk of 'Pages' and 'Put'.
-/
namespace Go.Proofs.YtjjfngnokbboeaaGreatDoor
open Go.MapKept

def ESlv : Enc Sl := ⟨1, fun s => [s.v], fun _ => rfl, fun x u hu => by simp at hu; subst hu; rfl⟩
theorem elSlv : ElT Tryz.prog ty_sl_sl_uint8 ty_sl_uint8 ESlv.size 24 := ElT_of (by kernel_rfl)
theorem beN_get : ∀ (k n i : Nat), i < k → (beN k n)[i]? = some (UInt8.ofNat (n / 256 ^ (k - 1 - i)))
  | 0, _, _, h => by omega
  | k + 1, n, 0, _ => by simp [beN]
  | k + 1, n, i + 1, h => by
    have := beN_get k n i (by omega)
    simp only [beN, List.getElem?_cons_succ, this]
    congr 4
    omega
theorem slA_blk {a : Option Addr} {c i n : Nat} {ad : Addr} (h : slA a c i n = some ad) : ∃ a0, a = some a0 ∧ a0.block = ad.block := by
  unfold slA at h
  split at h
  · exact ⟨ad, h, rfl⟩
  · cases a with
    | none => cases h
    | some a0 => cases h; exact ⟨a0, rfl, (add_block _ _).symm⟩
theorem pieces_get {L : List UInt8} {i : Nat} (h : i < (pieces L).length) : (pieces L)[i] = (L.drop (504 * i)).take 504 := by
  have h1 := pieces_at h
  rw [List.take_add_one, List.getElem?_eq_getElem h] at h1
  simpa using List.append_cancel_left h1
/-- Pages in memory, in blocks from 'z' on. -/
def PgsAt (z : Nat) (A : Heap) (out : Sl) (pg : List (List UInt8)) : Prop :=
  ∃ ss : List Sl, SlE ESlv ty_sl_uint8 A out ss ∧ ss.length = pg.length ∧ (∀ (i : Nat) s p, ss[i]? = some s → pg[i]? = some p → SlE EB ty_uint8 A s p ∧ ∀ b, ownB s b → z ≤ b) ∧ ∀ b, ownB out b → z ≤ b
theorem PgsAt.keep {z : Nat} {A B : Heap} {out : Sl} {pg : List (List UInt8)} (h : PgsAt z A out pg) (k : ∀ b, z ≤ b → b < A.size → B[b]? = A[b]?) : PgsAt z B out pg := by
  obtain ⟨ss, h1, h2, h3, h4⟩ := h
  exact ⟨ss, h1.keep fun b hb hl => k b (h4 b hb) hl, h2, fun i s p q1 q2 => ⟨(h3 i s p q1 q2).1.keep fun b hb hl => k b ((h3 i s p q1 q2).2 b hb) hl, (h3 i s p q1 q2).2⟩, h4⟩

set_option maxHeartbeats 1000000 in
theorem RPages_ok {b : Sl} {lb : List UInt8} {H : Heap} {K : Sl → Heap → Prop} (hb : Byts H b lb) (hl : lb.length ≤ 1000000000)
    (hK : ∀ out A, PgsAt H.size A out ((pieces (allM lb)).map (sealP 3)) → Ext H A → K out A) : fathomref28_Pages.sp b H K := by
  refine fathomref28_Pages.of ?_
  unfold fathomref28_Pages.vc
  have hn := hb.n
  refine loop_upto 8 (fun k z A => z.2 = 56 - 8 * (k : Int) ∧ SlE EB ty_uint8 A z.1 ((beN 8 lb.length).take k) ∧ Ext H A ∧ ∀ q, ownB z.1 q → H.size ≤ q) ⟨rfl, SlE.nil _ _ _, .refl _ _, by rintro q ⟨ad, e, _⟩; cases e⟩ ?_
  rintro k ⟨z1, z2⟩ A next hk ⟨hz, oA, eA, fA⟩ hnext
  simp only at hz oA fA hnext ⊢
  subst hz
  have hzA := eA.size
  refine br_mk (fun hc => ?_) (fun hc => ?_)
  · have hk8 : k < 8 := by have : 56 - 8 * (k : Int) ≥ 0 := by simpa using hc
                           omega
    refine ⟨by omega, ?_⟩
    have e1 : (56 - 8 * (k : Int)) = ((8 * (7 - k) : Nat) : Int) := by omega
    have e2 : IntKind.i64.wrap (56 - 8 * (k : Int) - 8) = 56 - 8 * ((k + 1 : Nat) : Int) := by rw [wrap64 (by omega) (by omega)]; omega
    rw [e2, e1, shrI _ _ (by omega), wrap8]
    refine SlE.push (E := EB) elByte (x := UInt8.ofNat (b.n / 2 ^ (8 * (7 - k)))) oA rfl (by simp; omega) (by simp; omega) fun out2 B oB gB _ => ?_
    have hzB := gB.1.size
    refine hnext hk8 _ _ ⟨rfl, ?_, ⟨by omega, fun q hq _ => (gB.1.same q (by omega) fun hh => by have := fA q hh; omega).trans (eA.same q hq id)⟩, fun q hq => (gB.2 q hq).elim (fA q) fun h => by omega⟩
    have e3 : (beN 8 lb.length)[k]? = some (UInt8.ofNat (b.n / 2 ^ (8 * (7 - k)))) := by
      rw [beN_get 8 _ k hk8, hn, Nat.pow_mul]
    rw [List.take_add_one, e3]; exact oB
  have hk8 : k = 8 := by have : ¬ 56 - 8 * (k : Int) ≥ 0 := by simpa using hc
                         omega
  subst hk8
  have hb8 : (beN 8 lb.length).take 8 = beN 8 lb.length := List.take_of_length_le (by simp)
  rw [hb8] at oA
  have bA : Byts A b lb := hb.keep fun ad _ hl => eA.same _ hl id
  refine SlE.append (E := EB) elByte (s := z1) (x := b) oA (by rw [RdE, EB_all]; exact bA.cells) hn (by simp; omega) (by simp; omega) fun all B oB gB _ => ?_
  have hL : beN 8 lb.length ++ lb = allM lb := rfl
  rw [hL] at oB
  have hLl : (allM lb).length = 8 + lb.length := by simp [allM]
  generalize allM lb = L at *
  have hzB := gB.1.size
  have eB : Ext H B := ⟨by omega, fun q hq _ => (gB.1.same q (by omega) fun hh => by have := fA q hh; omega).trans (eA.same q hq id)⟩
  have fB : ∀ q, ownB all q → H.size ≤ q := fun q hq => (gB.2 q hq).elim (fA q) fun h => by omega
  have ltB : ∀ q, ownB all q → q < B.size := oB.lt
  have hpl := pieces_length L
  refine loop_upto (pieces L).length (fun k z C => Byts C z.1 (L.drop (504 * k)) ∧ z.1.n ≤ z.1.c ∧ (SlE EB ty_uint8 C all L ∧ ∀ ad, z.1.a = some ad → ownB all ad.block) ∧ PgsAt B.size C z.2 (((pieces L).take k).map (sealP 3)) ∧ Ext B C) ⟨by simpa using SlB_byts oB, Owns.cap oB, ⟨oB, fun ad ha => ⟨ad, ha, rfl⟩⟩, ⟨[], SlE.nil _ _ _, rfl, by simp, by rintro q ⟨ad, e, _⟩; cases e⟩, .refl _ _⟩ ?_
  rintro k ⟨z1', out⟩ C next' hk' ⟨bC, cC, ⟨oC, wC⟩, pC, eC⟩ hnext'
  simp only at bC cC wC pC hnext' ⊢
  have hCn := bC.n
  rw [List.length_drop] at hCn
  refine br_mk (fun hc => ?_) (fun hc => ?_)
  · have hpos : 0 < z1'.n := by have : (z1'.n : Int) > 0 := by simpa using hc
                                omega
    have hlt : k < (pieces L).length := by omega
    obtain ⟨m, hm⟩ : ∃ m : Nat, m = min 504 z1'.n := ⟨_, rfl⟩
    have em : (if (504 : Int) < (z1'.n : Int) then (504 : Int) else (z1'.n : Int)) = (m : Int) := by split <;> omega
    simp only [em, Int.toNat_natCast, Nat.sub_zero, slA_zero']
    refine ⟨by omega, ?_⟩
    have tk : (L.drop (504 * k)).take m = (L.drop (504 * k)).take 504 := by
      by_cases q : 504 ≤ z1'.n
      · rw [show m = 504 by omega]
      · rw [List.take_of_length_le (by rw [List.length_drop]; omega), List.take_of_length_le (by rw [List.length_drop]; omega)]
    have bp := bC.take m (by omega) z1'.c
    rw [tk] at bp
    refine RSeal_ok (kind := 3) bp (by rw [List.length_take]; omega) fun s' D oD eD fD => ?_
    obtain ⟨ss, h1, h2, h3, h4⟩ := pC
    have hss : ss.length = k := by rw [h2, List.length_map, List.length_take]; omega
    have hzC := eC.size
    have hzD := eD.size
    refine SlE.push (E := ESlv) elSlv (x := s') (h1.ext eD) rfl (by omega) (by omega) fun out' E oE gE _ => ?_
    have hzE := gE.1.size
    have same : ∀ q, q < D.size → ¬ ownB out q → E[q]? = D[q]? := fun q hq hn => gE.1.same q hq hn
    have oty : ∀ q, ownB out q → ∃ cur, D[q]? = some (.cells cur ty_sl_uint8 (0, 0)) := (h1.ext eD).obj
    have off : ∀ {s : Sl} {p : List UInt8}, SlE EB ty_uint8 D s p → ∀ q, ownB s q → ¬ ownB out q := fun hs => hs.apart (h1.ext eD) (by decide)
    refine ⟨by omega, ?_⟩
    refine hnext' hlt _ _ ⟨?_, by simp only; omega, ⟨(oC.ext eD).keep fun q hq hl => same q hl (off (oC.ext eD) q hq), fun ad ha => by obtain ⟨a0, ha0, hab⟩ := slA_blk ha; rw [← hab]; exact wC a0 ha0⟩, ⟨ss ++ [s'], oE, ?_, ?_, fun q hq => (gE.2 q hq).elim (h4 q) fun h => by omega⟩, ⟨by omega, fun q hq _ => (same q (by omega) fun hh => by have := h4 q hh; omega).trans ((eD.same q (by omega) id).trans (eC.same q hq id))⟩⟩
    · have bD := bC.drop cC m
      have e5 : (L.drop (504 * k)).drop m = L.drop (504 * (k + 1)) := by
        rw [List.drop_drop]
        by_cases q : 504 ≤ z1'.n
        · rw [show m = 504 by omega]; congr 1
        · rw [List.drop_of_length_le (by omega), List.drop_of_length_le (by omega)]
      rw [e5] at bD
      have oD2 := oC.ext eD
      refine byts_keep bD fun hne ad ha hl => ?_
      obtain ⟨a0, ha0, hab⟩ := slA_blk ha
      have hw := wC a0 ha0
      rw [hab] at hw
      have hl2 := oC.lt _ hw
      exact (same _ (by omega) (off oD2 _ hw)).trans (eD.same _ hl2 id)
    · rw [List.length_append, hss]; simp; omega
    · intro i s p hs hp
      rw [List.take_add_one, List.getElem?_eq_getElem hlt] at hp
      simp only [Option.toList_some, List.map_append, List.map_cons, List.map_nil] at hp
      by_cases hi : i < k
      · rw [List.getElem?_append_left (by omega)] at hs
        rw [List.getElem?_append_left (by simp; omega)] at hp
        obtain ⟨w1, w2⟩ := h3 i s p hs hp
        have w3 := w1.ext eD
        exact ⟨w3.keep fun q hq hl => same q hl (off w3 q hq), w2⟩
      · have hik : i = k := by have := (List.getElem?_eq_some_iff.1 hs).1; simp at this; omega
        subst hik
        rw [List.getElem?_append_right (by omega)] at hs
        rw [List.getElem?_append_right (by simp; omega)] at hp
        simp [hss] at hs
        have hmin : i - min i (pieces L).length = 0 := by omega
        rw [List.length_map, List.length_take, hmin] at hp
        simp at hp
        subst hs; subst hp
        have epi : (pieces L)[i] = (L.drop (504 * i)).take 504 := pieces_get hlt
        rw [epi]
        exact ⟨oD.keep fun q hq hl => same q hl (off oD q hq), fun q hq => by have := fD q hq; omega⟩
  · have hz0 : z1'.n = 0 := by have : ¬ (z1'.n : Int) > 0 := by simpa using hc
                               omega
    have hge : k = (pieces L).length := by omega
    rw [hge, List.take_length] at pC
    obtain ⟨ss, h1, h2, h3, h4⟩ := pC
    exact hK out C ⟨ss, h1, h2, fun i s p q1 q2 => ⟨(h3 i s p q1 q2).1, fun q hq => Nat.le_trans eB.size ((h3 i s p q1 q2).2 q hq)⟩, fun q hq => Nat.le_trans eB.size (h4 q hq)⟩ (Mod.trans eB eC)
end Go.Proofs.YtjjfngnokbboeaaGreatDoor

/-
  The document's byte files: the walk of 'Put' and of 'Get'.
-/
namespace Go.Proofs.YtjjfngnokbboeaaGreatDoor
open Go.MapKept

def rputRest (d : Option Addr) (name : ByteArray) (b : Sl) (H : Heap) (R : Int → Heap → Prop) : Prop :=
  fathomref01_Disk_Create.sp d name H fun (e_1 : Int) H3 => br (e_1 != (0 : Int)) (R e_1 H3) (fathomref28_Pages.sp b H3 fun (l : Sl) H4 => LoopVC Int (0 : Int) H4 fun next i H5 => br (decide (i < (l.n : Int))) (optK l.a fun a => (0 ≤ i ∧ i < (l.n : Int)) ∧ ld cSl H5 (a.add (i.toNat * 1)) fun (x : Sl) => fathomref01_Disk_Write.sp d name i x H5 fun (e_2 : Int) H6 => br (e_2 != (0 : Int)) (R e_2 H6) (next (IntKind.i64.wrap (i + (1 : Int))) H6)) (fathomref01_Disk_Sync.sp d name H5 fun (r_1 : Int) H7 => R r_1 H7))
theorem rputRest_ok {F F1 : Nat → Prop} {d : Nat} {s : Dk} {HB H6 : Heap} {b : Sl} {lb : List UInt8} {n : ByteArray} {R : Int → Heap → Prop} (h : RefAt F1 H6 d s) (S : Step F F1 HB H6)
    (hb : Byts H6 b lb) (hbF : lb ≠ [] → ∀ ad, b.a = some ad → ¬ F1 ad.block) (hl : lb.length ≤ 900000) (hlog : s.logs ≤ 60000000000)
    (hR : ∀ F' H', RefAt F' H' d (s.make n lb).1 → Step F F' HB H' → R (s.make n lb).2 H') : rputRest (at0 d) n b H6 R := by
  unfold rputRest
  refine RCreate_ok h fun F2 H7 a2 S2 => ?_
  have S07 := S.trans S2
  refine br_mk (fun hc => ?_) (fun hc => ?_)
  · have hc' : (s.create n).2 ≠ 0 := by simpa using hc
    have e : s.make n lb = s.create n := by unfold Dk.make; rw [if_pos hc']
    have := hR F2 H7 (by rw [e]; exact a2) S07
    rwa [e] at this
  have hc' : ¬ (s.create n).2 ≠ 0 := by simpa using hc
  have hmake : s.make n lb = (s.create n).1.fill n lb := by unfold Dk.make; rw [if_neg hc']
  have b7 : Byts H7 b lb := byts_keep hb fun hne ad ha hl => S2.mod.same _ hl (hbF hne ad ha)
  refine RPages_ok b7 (by omega) fun out A pA eA => ?_
  obtain ⟨ss, h1, h2, h3, h4⟩ := pA
  have hlc := s.create_logs n
  generalize hs1 : (s.create n).1 = s1 at *
  have a2A := a2.keep fun b _ hl => eA.same b hl id
  have SA : Step F F2 HB A := ⟨S07.mod.trans' eA fun _ _ q => q.elim, S07.own⟩
  have hF2 := a2.lt
  have hzA := eA.size
  have hpl := pieces_length (allM lb)
  have hLl : (allM lb).length = 8 + lb.length := by simp [allM]
  generalize hL : allM lb = L at *
  have hn := h1.n (by decide)
  rw [List.length_map] at h2
  refine loop_upto (pieces L).length (fun k i C => i = (k : Int) ∧ (wrPages n ((pieces L).take k) 0 s1).2 = 0 ∧ ∃ Fk, RefAt Fk C d (wrPages n ((pieces L).take k) 0 s1).1 ∧ Step F2 Fk A C) ⟨rfl, by simp [wrPages], F2, by simpa [wrPages] using a2A, .refl _ _⟩ ?_
  rintro k _ C next hk ⟨rfl, ok, Fk, aC, SC⟩ hnext
  have hlg := wr_logs n ((pieces L).take k) 0 s1
  have hkl : ((pieces L).take k).length ≤ 3000 := by rw [List.length_take]; omega
  have keepC : ∀ q, H7.size ≤ q → q < A.size → C[q]? = A[q]? := fun q h1 h2 => SC.mod.same q h2 fun hh => by have := hF2 q hh; omega
  have hmod := SC.mod.size
  refine br_mk (fun hc => ?_) (fun hc => ?_)
  · have hlt : k < (pieces L).length := by have : (k : Int) < (out.n : Int) := by simpa using hc
                                           omega
    have o1 : SlE ESlv ty_sl_uint8 C out ss := h1.keep fun q hq hl => keepC q (h4 q hq) hl
    obtain ⟨ad, ha⟩ := RdE.addr o1.rd (by decide) (by omega)
    refine optK_mk ad ha ⟨⟨by omega, by omega⟩, ?_⟩
    have hx : ss[k]? = some ss[k] := List.getElem?_eq_getElem (by omega)
    refine SlE.one (c := cSl) (y := ss[k]) o1 (i := k) hx rfl rfl ha ?_
    have hp : ((pieces L).map (sealP 3))[k]? = some (sealP 3 (pieces L)[k]) := by rw [List.getElem?_map, List.getElem?_eq_getElem hlt]; rfl
    obtain ⟨w1, w2⟩ := h3 k _ _ hx hp
    have w3 := w1.keep (H' := C) fun q hq hl => keepC q (w2 q hq) hl
    refine RWrite_ok aC (SlB_byts w3) (fun ad ha hh => ?_) (by omega) fun F5 D aD SD => ?_
    · have q1 := w2 _ ⟨ad, ha, rfl⟩
      have q2 := w1.lt _ ⟨ad, ha, rfl⟩
      rcases SC.own _ hh with q | q
      · have := hF2 _ q; omega
      · omega
    have hsn := wr_snoc n (pieces L)[k] ((pieces L).take k) 0 s1 ok
    have hkn : ((0 + ((pieces L).take k).length : Nat) : Int) = (k : Int) := by rw [List.length_take]; omega
    have htk : (pieces L).take k ++ [(pieces L)[k]] = (pieces L).take (k + 1) := by rw [List.take_add_one, List.getElem?_eq_getElem hlt]; rfl
    rw [hkn, htk] at hsn
    rw [← hsn] at aD ⊢
    have S2D := SC.trans SD
    refine br_mk (fun hd => ?_) (fun hd => ?_)
    · have hd' : (wrPages n ((pieces L).take (k + 1)) 0 s1).2 ≠ 0 := by simpa using hd
      have hall : wrPages n (pieces L) 0 s1 = wrPages n ((pieces L).take (k + 1)) 0 s1 := by
        have := wr_err n ((pieces L).drop (k + 1)) ((pieces L).take (k + 1)) 0 s1 hd'
        rwa [List.take_append_drop] at this
      have e : s.make n lb = wrPages n ((pieces L).take (k + 1)) 0 s1 := by
        rw [hmake]; unfold Dk.fill; rw [hL, hall, if_pos hd']
      have := hR F5 D (by rw [e]; exact aD) (SA.trans S2D)
      rwa [e] at this
    · have hd' : (wrPages n ((pieces L).take (k + 1)) 0 s1).2 = 0 := by simpa using hd
      exact hnext hlt _ _ ⟨succ64 k (by omega), hd', F5, aD, S2D⟩
  · have hge : k = (pieces L).length := by have : ¬ (k : Int) < (out.n : Int) := by simpa using hc
                                           omega
    rw [hge, List.take_length] at ok aC hlg
    refine RSync_ok aC (by rw [List.length_take] at hkl; omega) fun F5 D aD SD => ?_
    have e : s.make n lb = (wrPages n (pieces L) 0 s1).1.sync n := by
      rw [hmake]; unfold Dk.fill; rw [hL, if_neg (by simpa using ok)]
    have := hR F5 D (by rw [e]; exact aD) (SA.trans (SC.trans SD))
    rwa [e] at this
theorem RPut_ok {F : Nat → Prop} {d : Nat} {s : Dk} {H : Heap} {b : Sl} {lb : List UInt8} {n : ByteArray} {K : Int → Heap → Prop} (h : RefAt F H d s)
    (hb : Byts H b lb) (hbF : lb ≠ [] → ∀ ad, b.a = some ad → ¬ F ad.block) (hl : lb.length ≤ 900000) (hlog : s.logs ≤ 60000000000)
    (hK : ∀ F' H', RefAt F' H' d (s.putM n lb).1 → Step F F' H H' → K (s.putM n lb).2 H') : fathomref28_Put.sp (at0 d) n b H K := by
  refine fathomref28_Put.of ?_
  unfold fathomref28_Put.vc
  refine br_mk (fun q => by simp [at0] at q) (fun _ => ?_)
  refine RLen_ok h (by omega) fun H1 m1 => ?_
  have a1 := h.keep fun b _ hl => m1.same b hl id
  have S1 : Step F F H H1 := ⟨Ext.mod m1, fun _ q => .inl q⟩
  have b1 : Byts H1 b lb := hb.keep fun ad _ hl => m1.same _ hl id
  refine br_mk (fun hc => ?_) (fun hc => ?_)
  · have hc' : (s.len n).2 = 0 := by simpa using hc
    have hcl : s.clear n = s.remove n := by unfold Dk.clear; rw [if_pos hc']
    refine RRemove_ok a1 fun F6 H6 a6 S6 => ?_
    have S06 := S1.trans S6
    refine br_mk (fun hd => ?_) (fun hd => ?_)
    · have hd' : (s.remove n).2 ≠ 0 := by simpa using hd
      have hp' : s.putM n lb = s.remove n := by unfold Dk.putM; rw [hcl, if_pos hd']
      have := hK F6 H6 (by rw [hp']; exact a6) S06
      rwa [hp'] at this
    · have hd' : ¬ (s.remove n).2 ≠ 0 := by simpa using hd
      have hp' : s.putM n lb = (s.remove n).1.make n lb := by unfold Dk.putM; rw [hcl, if_neg hd']
      have hlg := s.remove_logs n
      have b6 : Byts H6 b lb := byts_keep b1 fun hne ad ha hl => S6.mod.same _ hl (hbF hne ad ha)
      show rputRest (at0 d) n b H6 K
      refine rputRest_ok a6 S06 b6 (fun hne ad ha q => ?_) hl (by omega) fun F' H' q1 q2 => ?_
      · obtain ⟨a0, ha0, hlt⟩ := b1.addr (List.length_pos_iff.2 hne)
        rw [ha] at ha0; cases ha0
        exact (S6.own _ q).elim (hbF hne ad ha) fun h => by omega
      · have := hK F' H' (by rw [hp']; exact q1) q2
        rwa [hp'] at this
  · have hc' : ¬ (s.len n).2 = 0 := by simpa using hc
    have hp' : s.putM n lb = s.make n lb := by unfold Dk.putM Dk.clear; rw [if_neg hc']; rfl
    show rputRest (at0 d) n b H1 K
    refine rputRest_ok a1 S1 b1 hbF hl hlog fun F' H' q1 q2 => ?_
    have := hK F' H' (by rw [hp']; exact q1) q2
    rwa [hp'] at this
theorem deN_take {l : List UInt8} {i : Nat} (h : i < l.length) : deN (l.take (i + 1)) = (deN (l.take i) * 256 + (l[i]).toNat) % 18446744073709551616 ∧ deN (l.take i) < 18446744073709551616 := by
  constructor
  · rw [List.take_add_one, List.getElem?_eq_getElem h]
    unfold deN
    rw [List.foldl_append]; rfl
  · unfold deN
    rcases List.eq_nil_or_concat (l.take i) with q | ⟨r, x, q⟩
    · rw [q]; decide
    · rw [q, List.concat_eq_append, List.foldl_append]
      exact Nat.mod_lt _ (by decide)
theorem bytesP_le : ∀ {l : List (UInt8 × List UInt8)}, (∀ x ∈ l, x.2.length ≤ 504) → (bytesP l).length ≤ 504 * l.length
  | [], _ => by simp [bytesP]
  | x :: l, hl => by
    have h1 := bytesP_le fun y hy => hl y (List.mem_cons_of_mem _ hy)
    have h2 := hl x List.mem_cons_self
    have e : bytesP (x :: l) = x.2 ++ bytesP l := rfl
    rw [e, List.length_append, List.length_cons]; omega
theorem RGet_ok {F : Nat → Prop} {d : Nat} {s : Dk} {H : Heap} {n : ByteArray} {K : (Sl × Int) → Heap → Prop} (h : RefAt F H d s) (hlog : s.logs ≤ 60000000000)
    (hK : ∀ r H', Byts H' r (s.getM n).1 → (s.getM n).1.length ≤ 1000000000 → r.n ≤ r.c → Ext H H' → K (r, (s.getM n).2) H') : fathomref28_Get.sp (at0 d) n H K := by
  have hw := h.wf
  have bad : ∀ e : Int, s.getM n = ([], e) → ∀ A, Ext H A → K (Sl.mk none 0 0, e) A := by
    intro e he A hA
    have := hK (Sl.mk none 0 0) A (by rw [he]; exact byts0 A) (by rw [he]; simp) (Nat.le_refl _) hA
    rwa [he] at this
  refine fathomref28_Get.of ?_
  unfold fathomref28_Get.vc
  refine br_mk (fun q => by simp [at0] at q) (fun _ => ?_)
  refine RLen_ok h (by omega) fun H1 e1 => ?_
  refine br_mk (fun hc => ?_) (fun hc => ?_)
  · have hc' : (s.len n).2 ≠ 0 := by simpa using hc
    exact bad _ (by unfold Dk.getM; rw [if_pos hc']) H1 e1
  have hc' : (s.len n).2 = 0 := by simpa using hc
  obtain ⟨hk, hrd, h512, hbig⟩ := Dk.opened hw hc'
  have hM : s.getM n = match tellP (s.pgs n) with | none => ([], 20) | some l => foundP l := by
    unfold Dk.getM; rw [if_neg (by simpa using hc')]; rfl
  generalize hP : s.pgs n = P at *
  rw [hk]
  refine loop_upto P.length (fun i z A => ∃ li all, tellP (P.take i) = some li ∧ li.length = i ∧ (∀ x ∈ li, x.2.length ≤ 504) ∧ z = (all, flagR P.length li, (i : Int)) ∧ SlE EB ty_uint8 A all (bytesP li) ∧ Ext H A ∧ ∀ b, ownB all b → H.size ≤ b) ⟨[], Sl.mk none 0 0, rfl, rfl, by simp, ?_, SlE.nil _ _ _, e1, by rintro b ⟨ad, q, _⟩; cases q⟩ ?_
  · have : (decide ((P.length : Int) > 0)) = decide (0 < P.length) := by
      rw [Bool.eq_iff_iff]; simp only [decide_eq_true_eq]; omega
    rw [flagR_nil]
    simp only [this]; rfl
  rintro i z A next hi ⟨li, all, ht, hli, h5, rfl, oA, eA, bA⟩ hnext
  have hb1 := bytesP_le h5
  have hAn : all.n = (bytesP li).length := oA.n (by decide)
  refine br_mk (fun hc => ?_) (fun hc => ?_)
  · have hlt : i < P.length := by
      have : (i : Int) < (P.length : Int) := by simpa using hc
      omega
    have hp : P[i]? = some P[i] := List.getElem?_eq_getElem hlt
    have hpm : P[i] ∈ P := List.getElem_mem hlt
    have hr := hrd i _ hp
    refine RReadC_ok (h.keep fun b _ hl => eA.same b hl id) (by omega) fun r A1 o1 e1' f1 c1 => ?_
    rw [hr] at o1 ⊢
    refine br_mk (fun q => by simp at q) (fun _ => ?_)
    have e01 : Ext H A1 := Mod.trans eA e1'
    refine ROpen_ok o1 c1 (h512 _ hpm) (fun hx B eB => ?_) (fun kd b s' A2 hx hb5 o2 e2 f2 => ?_)
    · refine br_mk (fun _ => ?_) (fun q => by simp at q)
      exact bad 20 (by rw [hM, tellP_none hpm hx]) B (Mod.trans e01 eB)
    · refine br_mk (fun q => by simp at q) (fun _ => ?_)
      have oA2 := (oA.ext e1').ext e2
      have e02 : Ext H A2 := Mod.trans e01 e2
      refine SlE.append (E := EB) elByte (s := all) (x := s') oA2 o2.rd (o2.n (by decide)) (by omega) (by omega) fun all2 A3 o3 g3 _ => ?_
      have e03 : Ext H A3 := ⟨Nat.le_trans e02.size g3.1.size, fun b hb _ => (g3.1.same b (Nat.lt_of_lt_of_le hb e02.size) fun q => by have := bA b q; omega).trans (e02.same b hb id)⟩
      refine hnext hlt _ _ ⟨li ++ [(kd, b)], all2, ?_, by simp [hli], ?_, ?_, by rw [bytesP_snoc]; exact o3, e03, fun b hb => (g3.2 b hb).elim (bA b) fun q => by have := e02.size; omega⟩
      · rw [List.take_add_one, hp]
        exact tellP_snoc ht hx
      · intro x hx
        rcases List.mem_append.1 hx with q | q
        · exact h5 x q
        · simp at q; rw [q]; exact hb5
      · rw [flagR_step (by omega), succ64 i (by omega), o2.n (by decide)]
        have e3 : ((kd.toNat : Int) == 3) = decide (kd = 3) := by
          rw [Bool.eq_iff_iff]
          simp only [beq_iff_eq, decide_eq_true_eq]
          refine ⟨fun q => UInt8.toNat_inj.1 (by have : (3 : UInt8).toNat = 3 := rfl
                                                 omega), fun q => by rw [q]; rfl⟩
        have e5 : (((b.length : Nat) : Int) == 504) = decide (b.length = 504) := by
          rw [Bool.eq_iff_iff]; simp only [beq_iff_eq, decide_eq_true_eq]; omega
        have e6 : ((i : Int) == IntKind.i64.wrap ((P.length : Int) - 1)) = decide (li.length + 1 = P.length) := by
          rw [wrap64 (by omega) (by omega), Bool.eq_iff_iff]; simp only [beq_iff_eq, decide_eq_true_eq]; omega
        simp only [e3, e5, e6]
  · have hge : i = P.length := by
      have : ¬ (i : Int) < (P.length : Int) := by simpa using hc
      omega
    rw [hge, List.take_length] at ht
    have hfl : P.length = li.length := by omega
    have hM2 : s.getM n = foundR li := by rw [hM, ht]; exact (foundR_eq h5).symm
    rw [hfl]
    refine br_mk (fun q => ?_) (fun q => ?_)
    · refine bad 280 ?_ A eA
      rw [hM2]
      unfold foundR
      rw [if_neg]
      rintro ⟨q1, q2, _⟩
      rw [q1, hAn] at q
      simp at q; omega
    · rw [hAn] at q
      have q : flagR li.length li = true ∧ ¬ (bytesP li).length < 8 := by
        simp at q
        exact ⟨q.1, by omega⟩
      have hcap := Owns.cap oA
      have hb0 := SlB_byts oA
      refine loop_upto 8 (fun j z B => z.2 = (j : Int) ∧ z.1 = (deN ((bytesP li).take j) : Int) ∧ B = A) ⟨rfl, rfl, rfl⟩ ?_
      rintro j ⟨z1, _⟩ _ next2 hj ⟨rfl, rfl, rfl⟩ hnext2
      simp only
      refine br_mk (fun hc => ?_) (fun hc => ?_)
      · have hj8 : j < 8 := by have : (j : Int) < 8 := by simpa using hc
                               omega
        have hjl : j < (bytesP li).length := by omega
        refine byte_of hb0 hjl rfl fun ad _ => ?_
        obtain ⟨d1, d2⟩ := deN_take hjl
        rw [orByte d2 ((bytesP li)[j]).toNat_lt, ← d1]
        exact hnext2 hj8 _ _ ⟨succ64 j (by omega), rfl, rfl⟩
      have hj8 : j = 8 := by have : ¬ (j : Int) < 8 := by simpa using hc
                             omega
      subst hj8
      have hwr : IntKind.u64.wrap (IntKind.i64.wrap ((all.n : Int) - 8)) = (((bytesP li).length - 8 : Nat) : Int) := by
        rw [hAn, wrap64 (by omega) (by omega), wrapU64]; omega
      rw [hwr]
      refine br_mk (fun p => ?_) (fun p => ?_)
      · refine bad 280 ?_ _ eA
        rw [hM2]
        unfold foundR
        rw [if_neg]
        rintro ⟨_, _, q3, _⟩
        rw [q3] at p; simp at p
      · have p : deN ((bytesP li).take 8) = (bytesP li).length - 8 := by
          have : ((deN ((bytesP li).take 8) : Nat) : Int) = (((bytesP li).length - 8 : Nat) : Int) := by simpa using p
          omega
        refine ⟨⟨by decide, by show (8 : Int) ≤ (all.n : Int); omega⟩, ?_⟩
        have hd8 := hb0.drop hcap 8
        refine RPages_ok hd8 (by rw [List.length_drop]; omega) fun out B pB eB => ?_
        obtain ⟨ss, g1, g2, _⟩ := pB
        have hon := g1.n (by decide)
        have hol : out.n = ((bytesP li).length + 503) / 504 := by
          rw [hon, g2, List.length_map, pieces_length]
          have : (allM ((bytesP li).drop 8)).length = 8 + ((bytesP li).length - 8) := by simp [allM]
          rw [this]; congr 1; omega
        refine br_mk (fun r => ?_) (fun r => ?_)
        · refine bad 280 ?_ _ (Mod.trans eA eB)
          rw [hM2]
          unfold foundR
          rw [if_neg]
          rintro ⟨_, _, _, q4⟩
          have : ¬ (out.n : Int) = (li.length : Int) := by simpa using r
          omega
        · have r' : (out.n : Int) = (li.length : Int) := by simpa using r
          have hM3 : s.getM n = ((bytesP li).drop 8, 0) := by
            rw [hM2]; unfold foundR; rw [if_pos ⟨q.1, by omega, p, by omega⟩]
          refine ⟨⟨by decide, by show (8 : Int) ≤ (all.n : Int); omega⟩, ?_⟩
          have := hK (Sl.mk (slA all.a all.c 8 1) (all.n - 8) (all.c - 8)) B (by rw [hM3]; exact hd8.keep fun ad _ hl => eB.same _ hl id) (by rw [hM3, List.length_drop]; omega) (by show all.n - 8 ≤ all.c - 8; omega) (Mod.trans eA eB)
          rw [hM3] at this; exact this
end Go.Proofs.YtjjfngnokbboeaaGreatDoor

/-
  The document's manifests: the walk of 'Commit' and of 'Recover'.
-/
namespace Go.Proofs.YtjjfngnokbboeaaGreatDoor
open Go.MapKept

theorem RCommit_ok {F : Nat → Prop} {d : Nat} {s : Dk} {m : Mf} {rs : Sl} {H : Heap} {K : Int → Heap → Prop} (h : RefAt F H d s) (hr : Rels H rs m.rels) (hl : m.rels.length < 4611686018427387904) (ho : 0 ≤ m.opts ∧ m.opts < 256)
    (hlog : s.logs ≤ 60000000000) (hlen : mayM m = true → (encM m).length ≤ 900000)
    (hK : ∀ F' H', RefAt F' H' d (s.commit m).1 → Step F F' H H' → K (s.commit m).2 H') : fathomref28_Commit.sp (at0 d) m.opts m.next m.input m.terms rs H K := by
  have hlt := h.lt
  refine fathomref28_Commit.of ?_
  unfold fathomref28_Commit.vc
  refine newC_rowT fun H1 s1 r1 e1 => ?_
  have r1' : RowT H1 H.size ty_api_Manifest (headM m.opts m.next m.input m.terms rs) := r1
  refine br_mk (fun q => by simp [at0] at q) (fun _ => ?_)
  refine mf_ld r1' ?_
  have keepA : ∀ A, Ext H1 A → RefAt F A d s ∧ Step F F H A := fun A e => by
    have e0 : Ext H A := Mod.trans e1 e
    exact ⟨h.keep fun b _ hl => e0.same b hl id, Ext.mod e0, fun _ q => .inl q⟩
  refine REncode_ok (hr.ext e1) hl ho (fun hm A e => ?_) (fun hm c A bc fc e => ?_)
  · obtain ⟨a1, S1⟩ := keepA A e
    have hc : s.commit m = (s, 2) := by unfold Dk.commit; rw [if_pos hm]
    refine br_mk (fun _ => ?_) (fun q => by simp at q)
    have := hK F A (by rw [hc]; exact a1) S1
    rwa [hc] at this
  · obtain ⟨a1, S1⟩ := keepA A e
    have hcm : ¬ mayM m = false := by rw [hm]; simp
    refine br_mk (fun q => by simp at q) (fun _ => ?_)
    refine RPut_ok (n := nmN) a1 bc (fun _ ad ha hF => by have := hlt _ hF; have := fc ad.block ⟨ad, ha, rfl⟩; have := e1.size; omega) (hlen hm) hlog fun F1 A1 d1 S2 => ?_
    have S02 := S1.trans S2
    refine br_mk (fun q => ?_) (fun q => ?_)
    · have q : (s.putM nmN (encM m)).2 ≠ 0 := by simpa using q
      have hc : s.commit m = s.putM nmN (encM m) := by unfold Dk.commit; rw [if_neg hcm, if_pos q]
      have := hK F1 A1 (by rw [hc]; exact d1) S02
      rwa [hc] at this
    · have q : ¬ (s.putM nmN (encM m)).2 ≠ 0 := by simpa using q
      have hc : s.commit m = (s.putM nmN (encM m)).1.rename nmN nmM := by unfold Dk.commit; rw [if_neg hcm, if_neg q]
      refine RRename_ok (n := nmN) (to := nmM) d1 fun F2 A2 d2 S3 => ?_
      have := hK F2 A2 (by rw [hc]; exact d2) (S02.trans S3)
      rwa [hc] at this
theorem ba_same2 (s t : ByteArray) : (s.toList == t.toList) = decide (s.data.toList = t.data.toList) := by
  rw [ByteArray.toList_eq, ByteArray.toList_eq, Bool.eq_iff_iff]
  simp
theorem keepsS (m : Mf) (n : List UInt8) : keeps (some m) n = (decide (n = nmM.data.toList) || decide (n = m.input.data.toList) || decide (n = m.terms.data.toList) || m.rels.any fun x => decide (n = x.file.data.toList)) := rfl
theorem RnamedM_ok {m : Mf} {rs : Sl} {s : ByteArray} {H : Heap} {K : Bool → Heap → Prop} (h : Rels H rs m.rels) (hl : m.rels.length ≤ 1000)
    (hK : ∀ H', Ext H H' → K (keeps (some m) s.data.toList) H') : fathomref28_named.sp m.opts m.next m.input m.terms rs s H K := by
  refine fathomref28_named.of ?_
  unfold fathomref28_named.vc
  refine newC_rowT fun H1 s1 r1 e1 => ?_
  have r1' : RowT H1 H.size ty_api_Manifest (headM m.opts m.next m.input m.terms rs) := r1
  have yes : keeps (some m) s.data.toList = true → K true H1 := fun q => by have := hK H1 e1; rwa [q] at this
  have hm1 : (s.toList == (ByteArray.mk #[109, 97, 110, 105, 102, 101, 115, 116]).toList) = decide (s.data.toList = nmM.data.toList) := ba_same2 _ _
  rw [hm1]
  refine br_mk (fun q => yes (by rw [keepsS]; rw [q]; rfl)) (fun q1 => ?_)
  refine r1'.ld (c := cStr) (i := 2) (x := m.input) rfl ?_
  rw [ba_same2]
  refine br_mk (fun q => yes (by rw [keepsS]; rw [q]; simp)) (fun q2 => ?_)
  refine r1'.ld (c := cStr) (i := 3) (x := m.terms) rfl ?_
  rw [ba_same2]
  refine br_mk (fun q => yes (by rw [keepsS]; rw [q]; simp)) (fun q3 => ?_)
  have rel := h.ext e1
  have hn := rel.n
  refine loop_upto m.rels.length (fun i z A => z = (i : Int) ∧ A = H1 ∧ (m.rels.take i).any (fun x => decide (s.data.toList = x.file.data.toList)) = false) ⟨rfl, rfl, by simp⟩ ?_
  rintro i _ _ next hi ⟨rfl, rfl, hno⟩ hnext
  refine r1'.ld (c := cSl) (i := 4) (x := rs) rfl ?_
  refine br_mk (fun hc => ?_) (fun hc => ?_)
  · have hlt : i < m.rels.length := by have : (i : Int) < (rs.n : Int) := by simpa using hc
                                       omega
    refine r1'.ld (c := cSl) (i := 4) (x := rs) rfl ?_
    have hx : m.rels[i]? = some m.rels[i] := List.getElem?_eq_getElem hlt
    obtain ⟨ad, hadd⟩ := rel.rd.addr (by decide) (by omega)
    refine optK_mk ad hadd ⟨⟨by omega, by omega⟩, ?_⟩
    refine RdE.ld (E := ESv) (c := cStr) (y := m.rels[i].file) rel.rd hadd (i := i) (j := 1) hx rfl (n := (i : Int).toNat * 3) (by rw [Int.toNat_natCast]; rfl) ?_
    rw [ba_same2]
    refine br_mk (fun q => yes ?_) (fun q => ?_)
    · have q : s.data.toList = m.rels[i].file.data.toList := by have := of_decide_eq_true q; exact this.symm
      rw [keepsS]
      have : m.rels.any (fun x => decide (s.data.toList = x.file.data.toList)) = true := List.any_eq_true.2 ⟨_, List.getElem_mem hlt, by simpa using q⟩
      rw [this]; simp
    · have q : ¬ s.data.toList = m.rels[i].file.data.toList := fun e => by rw [e] at q; simp at q
      refine hnext hlt _ _ ⟨succ64 i (by omega), rfl, ?_⟩
      rw [List.take_add_one, hx, List.any_append, hno]
      simp only [Option.toList_some, List.any_cons, List.any_nil, Bool.false_or, Bool.or_false]
      exact decide_eq_false q
  · have hge : i = m.rels.length := by have : ¬ (i : Int) < (rs.n : Int) := by simpa using hc
                                       omega
    rw [hge, List.take_length] at hno
    have : keeps (some m) s.data.toList = false := by rw [keepsS]; rw [q1, q2, q3, hno]; rfl
    have := hK _ e1
    rwa [‹keeps (some m) s.data.toList = false›] at this
theorem RDecode3_ok {b : Sl} {l : List UInt8} {H : Heap} {R : ((Int × Int × ByteArray × ByteArray × Sl) × Int) → Heap → Prop} (hb : Byts H b l) (hc : b.n ≤ b.c) (hl : l.length < 4611686018427387904)
    (hK : ∀ rs A', SlE ESv ty_api_Saved A' rs (decR l).1.rels → (∀ b, ownB rs b → H.size ≤ b) → Ext H A' → R (((decR l).1.opts, (decR l).1.next, (decR l).1.input, (decR l).1.terms, rs), (decR l).2) A') : fathomref28_Decode.sp b H R := by
  unfold decR at hK
  refine RDecode_ok hb hc hl (fun hm A' e => ?_) (fun m rs A' hm o f e => ?_)
  · rw [hm] at hK
    exact hK (Sl.mk none 0 0) A' (SlE.nil _ _ _) (by rintro b ⟨ad, q, _⟩; cases q) e
  · rw [hm] at hK
    exact hK rs A' o f e
theorem decR_iff (l : List UInt8) : ((decR l).2 == 0) = (decM l).isSome ∧ (∀ m, decM l = some m → (decR l).1 = m) := by
  unfold decR
  cases decM l with
  | none => exact ⟨rfl, by simp⟩
  | some m => exact ⟨rfl, by simp⟩
set_option maxRecDepth 100000 in
set_option maxHeartbeats 2000000 in
theorem RRecover_ok {F : Nat → Prop} {d : Nat} {s : Dk} {H : Heap} {R : ((Int × Int × ByteArray × ByteArray × Sl) × Bool × Int) → Heap → Prop} (h : RefAt F H d s) (hlog : s.logs ≤ 60000000000)
    (hR : ∀ F' H' rs, RefAt F' H' d s.recover.2 → Step F F' H H' → SlE ESv ty_api_Saved H' rs s.recover.1.1.rels →
      R ((s.recover.1.1.opts, s.recover.1.1.next, s.recover.1.1.input, s.recover.1.1.terms, rs), s.recover.1.2.1, s.recover.1.2.2) H') : fathomref28_Recover.sp (at0 d) H R := by
  have hlt := h.lt
  refine fathomref28_Recover.of ?_
  unfold fathomref28_Recover.vc
  rw [zc_mf]
  refine newC_rowT fun H1 s1 r1 e1 => ?_
  refine br_mk (fun q => by simp [at0] at q) (fun _ => ?_)
  have dk1 := h.keep fun b _ hl => e1.same b hl id
  refine RGet_ok (n := nmM) dk1 hlog fun r H3 b3 l3 c3 e3 => ?_
  have e03 : Ext H H3 := Mod.trans e1 e3
  have z3 := e03.size
  have z13 := e3.size
  have r3 := r1.ext e3
  have nil0 : ∀ (A : Heap) (F' : Nat → Prop), RefAt F' A d s.recover.2 → Step F F' H A → s.recover.1.1 = mf0 → R ((0, 0, ByteArray.empty, ByteArray.empty, Sl.mk none 0 0), s.recover.1.2.1, s.recover.1.2.2) A := by
    intro A F' a1 a2 a3
    have := hR F' A (Sl.mk none 0 0) a1 a2 (by rw [a3]; exact SlE.nil _ _ _)
    rw [a3] at this; exact this
  refine br_mk (fun hc => ?_) (fun hc => ?_)
  · have hc' : (s.getM nmM).2 = 4 := by simpa using hc
    have hrec : s.recover = ((mf0, false, 4), s) := by unfold Dk.recover; rw [if_pos hc']
    refine mf_put (s := Sl.mk none 0 0) r3 rfl fun A r2 m2 s2 => mf_ld r2 ?_
    have eA : Ext H A := ((Ext.mod (F := fun b => b = H.size) e03).trans m2).ext fun b hb => by omega
    have := nil0 A F (by rw [hrec]; exact h.keep fun b _ hl => eA.same b hl id) ⟨Ext.mod eA, fun _ q => .inl q⟩ (by rw [hrec])
    rw [hrec] at this
    rw [hc']
    exact this
  have hc' : ¬ (s.getM nmM).2 = 4 := by simpa using hc
  refine RDecode3_ok b3 c3 (by omega) fun rs H5 o5 f5 e5 => ?_
  obtain ⟨hd1, hd2⟩ := decR_iff (s.getM nmM).1
  have hfd : (((s.getM nmM).2 == 0) && ((decR (s.getM nmM).1).2 == 0)) = s.foundM.isSome := by
    rw [hd1]
    unfold Dk.foundM
    by_cases q : (s.getM nmM).2 = 0
    · rw [if_pos q, q]; simp
    · rw [if_neg q]
      have : ((s.getM nmM).2 == 0) = false := by simpa using q
      rw [this]; rfl
  have hfm : ∀ m, s.foundM = some m → (decR (s.getM nmM).1).1 = m := by
    intro m hm
    unfold Dk.foundM at hm
    split at hm
    · exact hd2 m hm
    · cases hm
  have hrl : (decR (s.getM nmM).1).1.rels.length ≤ 1000 := (decR_ok _).1
  generalize hmm : (decR (s.getM nmM).1).1 = m at *
  simp only [hfd]
  have e05 : Ext H H5 := Mod.trans e03 e5
  refine newC_rowT fun H6 s6 r6 e6 => ?_
  refine mf_put (s := rs) r6 rfl fun H7 r7 m7 s7 => ?_
  have e67 : Ext H5 H7 := ((Ext.mod (F := fun b => b = H5.size) e6).trans m7).ext fun b hb => by omega
  have e07 : Ext H H7 := Mod.trans e05 e67
  have o7 := o5.ext e67
  have z5 := e05.size
  have z7 := e07.size
  have z57 := e67.size
  have r07 := ((r3.ext e5).ext e67)
  have hH : H.size < H3.size := Nat.lt_of_lt_of_le (by omega) z13
  have hH5 : H.size < H5.size := by have := e5.size; omega
  have dk7 := h.keep fun b _ hl => e07.same b hl id
  refine RList_ok dk7 fun l H8 o8 e8 f8 => ?_
  have e08 : Ext H H8 := Mod.trans e07 e8
  have z8 := e08.size
  have z78 := e8.size
  have dk8 := h.keep fun b _ hl => e08.same b hl id
  have hln : l.n = s.list.length := o8.n (by decide)
  have hbig : s.list.length ≤ 4096 := list_le h.wf
  have p7 : H5.size < H7.size := (Array.getElem?_eq_some_iff.1 r7).1
  have lr : ∀ b, ownB rs b → b < H5.size := o5.lt
  refine loop_upto s.list.length (fun i z A => z = (i : Int) ∧ ∃ F2 s2, RefAt F2 A d s2 ∧ Step F F2 H8 A ∧ Dk.sweep s.foundM (s.list.drop i) s2 = Dk.sweep s.foundM s.list s) ⟨rfl, F, s, dk8, .refl _ _, by simp⟩ ?_
  rintro i _ A next hi ⟨rfl, F2, s2, dk2, S2, hsw⟩ hnext
  have nF : ∀ b, H.size ≤ b → ¬ F b := fun b hb q => by have := hlt b q; omega
  have x0 := (r07.ext e8).mod S2.mod (nF _ (Nat.le_refl _))
  have x1 := (r7.ext e8).mod S2.mod (nF _ (by omega))
  have oA : SlE EN ty_string A l s.list := Owns.mod o8 S2.mod fun b hb q => by have := f8 b hb; have := hlt b q; omega
  have S02 : Step F F2 H A := ⟨(Ext.mod e08).trans S2.mod, fun b hb => (S2.own b hb).imp id fun q => by omega⟩
  have end1 : ∀ (F3 : Nat → Prop) (A3 : Heap), RefAt F3 A3 d (Dk.sweep s.foundM s.list s).1 → Step F F3 H A3 → RowT A3 H.size ty_api_Manifest #[.int .u8 0, .int .i64 0, .string ByteArray.empty, .string ByteArray.empty, .slice none 0 0] → ¬ F3 H.size → (Dk.sweep s.foundM s.list s).2 ≠ 0 →
      doU Tryz.prog (Instr.storeAt ty_api_Manifest (.pointer (some ⟨H.size, 0, none⟩)) (.agg #[(.int .u8 (0 : Int)), (.int .i64 (0 : Int)), (.string ByteArray.empty), (.string ByteArray.empty), (.slice none 0 0)])) A3 fun H11 => ldA (cAgg [(cInt .u8), (cInt .i64), cStr, cStr, cSl]) 5 H11 ⟨H.size, 0, none⟩ fun (res_2 : (Int × Int × ByteArray × ByteArray × Sl)) => R ((res_2.1, res_2.2.1, res_2.2.2.1, res_2.2.2.2.1, res_2.2.2.2.2), false, (Dk.sweep s.foundM s.list s).2) H11 := by
    intro F3 A3 a3 S3 q0 nq he
    have hrec : s.recover = ((mf0, false, (Dk.sweep s.foundM s.list s).2), (Dk.sweep s.foundM s.list s).1) := by unfold Dk.recover; rw [if_neg hc', if_pos he]
    refine mf_put (s := Sl.mk none 0 0) q0 rfl fun A4 r4 m4 s4 => mf_ld r4 ?_
    have := nil0 A4 F3 (by rw [hrec]; exact a3.keep fun b hb hl => m4.same b hl fun q => nq (q ▸ hb)) ⟨S3.mod.trans' m4 fun b hb q => by omega, S3.own⟩ (by rw [hrec])
    rw [hrec] at this
    exact this
  refine br_mk (fun hc => ?_) (fun hc => ?_)
  · have hlt2 : i < s.list.length := by
      have : (i : Int) < (l.n : Int) := by simpa using hc
      omega
    have hx : s.list[i]? = some s.list[i] := List.getElem?_eq_getElem hlt2
    obtain ⟨ad, hadd⟩ := oA.rd.addr (by decide) (by omega)
    have hd : s.list.drop i = s.list[i] :: s.list.drop (i + 1) := List.drop_eq_getElem_cons hlt2
    rw [hd, sweep_cons] at hsw
    -- a file is taken out
    have rest : ∀ A2, Ext A A2 → keeps s.foundM s.list[i] = false → 
        fathomref01_Disk_Remove.sp (at0 d) (baOf s.list[i]) A2 fun (e : Int) H10 => br (e != (0 : Int)) (doU Tryz.prog (Instr.storeAt ty_api_Manifest (.pointer (some ⟨H.size, 0, none⟩)) (.agg #[(.int .u8 (0 : Int)), (.int .i64 (0 : Int)), (.string ByteArray.empty), (.string ByteArray.empty), (.slice none 0 0)])) H10 fun H11 => ldA (cAgg [(cInt .u8), (cInt .i64), cStr, cStr, cSl]) 5 H11 ⟨H.size, 0, none⟩ fun (res_2 : (Int × Int × ByteArray × ByteArray × Sl)) => R ((res_2.1, res_2.2.1, res_2.2.2.1, res_2.2.2.2.1, res_2.2.2.2.2), false, e) H11) (next (IntKind.i64.wrap ((i : Int) + (1 : Int))) H10) := by
      intro A2 eA2 hq
      rw [if_neg (by rw [hq]; simp)] at hsw
      have dkA2 := dk2.keep fun b _ hl => eA2.same b hl id
      have S2A : Step F F2 H8 A2 := ⟨S2.mod.trans' eA2 fun _ _ q => q.elim, S2.own⟩
      refine RRemove_ok dkA2 fun F3 A3 dk3 S3 => ?_
      have S83 := S2A.trans S3
      have S03 : Step F F3 H A3 := ⟨(Ext.mod e08).trans S83.mod, fun b hb => (S83.own b hb).imp id fun q => by omega⟩
      refine br_mk (fun hq2 => ?_) (fun hq2 => ?_)
      · have hq3 : (s2.remove (baOf s.list[i])).2 ≠ 0 := by simpa using hq2
        rw [if_pos hq3] at hsw
        rw [hsw] at dk3 hq3 ⊢
        exact end1 F3 A3 dk3 S03 ((r07.ext e8).mod S83.mod (nF _ (Nat.le_refl _))) (fun q => (S83.own _ q).elim (nF _ (Nat.le_refl _)) fun q => by omega) hq3
      · have hq3 : ¬ (s2.remove (baOf s.list[i])).2 ≠ 0 := by simpa using hq2
        rw [if_neg hq3] at hsw
        exact hnext hlt2 _ _ ⟨succ64 i (by omega), F3, _, dk3, S83, hsw⟩
    have ldN : ∀ (A2 : Heap) (KK : ByteArray → Prop), Ext A A2 → KK (baOf s.list[i]) → optK l.a fun a => (0 ≤ (i : Int) ∧ (i : Int) < (l.n : Int)) ∧ ld cStr A2 (a.add ((i : Int).toNat * 1)) fun (x : ByteArray) => KK x := by
      intro A2 KK eA2 hk
      have oA2 := oA.ext eA2
      refine optK_mk ad hadd ⟨⟨by omega, by omega⟩, ?_⟩
      exact (SlE.rd oA2).ld (c := cStr) hadd (j := 0) (y := baOf s.list[i]) hx rfl (n := (i : Int).toNat * 1) (by rw [Int.toNat_natCast]; rfl) hk
    refine br_mk (fun hf => ?_) (fun hf => ?_)
    · have hf' : s.foundM = none := by
        cases hq : s.foundM with
        | none => rfl
        | some m => rw [hq] at hf; simp at hf
      exact ldN A _ (.refl _ _) (rest A (.refl _ _) (by rw [hf']; rfl))
    · have hf' : s.foundM = some m := by
        cases hq : s.foundM with
        | none => rw [hq] at hf; simp at hf
        | some m' => rw [hfm m' hq]
      refine mf_ld x1 ?_
      refine ldN A _ (.refl _ _) ?_
      have oRA : SlE ESv ty_api_Saved A rs m.rels := Owns.mod (o7.ext e8) S2.mod fun b hb q => by
        have := hlt b q
        have hb' := f5 b hb
        omega
      refine RnamedM_ok oRA.rels hrl fun A2 e2 => ?_
      have hbd : (baOf s.list[i]).data.toList = s.list[i] := by simp [baOf]
      rw [hbd, ← hf']
      refine br_mk (fun hq => ?_) (fun hq => ?_)
      · have hq' : keeps s.foundM s.list[i] = false := by simpa using hq
        exact ldN A2 _ e2 (rest A2 e2 hq')
      · have hq' : keeps s.foundM s.list[i] = true := by simpa using hq
        rw [if_pos hq'] at hsw
        exact hnext hlt2 _ _ ⟨succ64 i (by omega), F2, s2, dk2.keep fun b _ hl => e2.same b hl id, ⟨S2.mod.trans' e2 fun _ _ q => q.elim, S2.own⟩, hsw⟩
  · have hge : i = s.list.length := by
      have : ¬ (i : Int) < (l.n : Int) := by simpa using hc
      omega
    rw [hge, List.drop_length] at hsw
    have hnil : Dk.sweep s.foundM [] s2 = (s2, 0) := rfl
    rw [hnil] at hsw
    have h0 : (Dk.sweep s.foundM s.list s).2 = 0 := by rw [← hsw]
    have h1 : (Dk.sweep s.foundM s.list s).1 = s2 := by rw [← hsw]
    have nq : ∀ b, H.size ≤ b → b < H8.size → ¬ F2 b := fun b h1 h2 q => (S2.own b q).elim (nF b h1) fun h => by omega
    refine br_mk (fun hf => ?_) (fun hf => ?_)
    · have hf' : s.foundM = none := by
        cases hq : s.foundM with
        | none => rfl
        | some m => rw [hq] at hf; simp at hf
      have hrec : s.recover = ((mf0, false, 0), s2) := by unfold Dk.recover; rw [if_neg hc', if_neg (by rw [h0]; simp), h1, hf']; rfl
      refine mf_put (s := Sl.mk none 0 0) x0 rfl fun A4 r4 m4 s4 => mf_ld r4 ?_
      have := nil0 A4 F2 (by rw [hrec]; exact dk2.keep fun b hb hl => m4.same b hl fun q => nq _ (Nat.le_refl _) (by omega) (q ▸ hb)) ⟨S02.mod.trans' m4 fun b hb q => by omega, S02.own⟩ (by rw [hrec])
      rw [hrec] at this
      exact this
    · have hf' : s.foundM = some m := by
        cases hq : s.foundM with
        | none => rw [hq] at hf; simp at hf
        | some m' => rw [hfm m' hq]
      have hrec : s.recover = ((m, true, 0), s2) := by unfold Dk.recover; rw [if_neg hc', if_neg (by rw [h0]; simp), h1, hf']; rfl
      refine mf_ld x1 ?_
      refine mf_put (s := rs) x0 rfl fun A4 r4 m4 s4 => mf_ld r4 ?_
      have oRA : SlE ESv ty_api_Saved A rs m.rels := Owns.mod (o7.ext e8) S2.mod fun b hb q => by
        have := hlt b q
        have hb' := f5 b hb
        omega
      have := hR F2 A4 rs (by rw [hrec]; exact dk2.keep fun b hb hl => m4.same b hl fun q => nq _ (Nat.le_refl _) (by omega) (q ▸ hb)) ⟨S02.mod.trans' m4 fun b hb q => by omega, S02.own⟩ (by
        rw [hrec]
        exact Owns.mod oRA m4 fun b hb q => by have := f5 b hb; omega)
      rw [hrec] at this
      exact this
end Go.Proofs.YtjjfngnokbboeaaGreatDoor
