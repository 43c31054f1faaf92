/-
  The document's manifests: what they are written as, and what bytes tell of one: the walk; whether two are the same.
-/
import Derived.Test.YtjjfngnokbboeaaGreatDoorJ26
import Derived.Test.YtjjfngnokbboeaaGreatDoorDrd
namespace Go.Proofs.YtjjfngnokbboeaaGreatDoor
open Go.MapKept

set_option maxRecDepth 100000 in
theorem REncode_ok {m : Mf} {rs : Sl} {H : Heap} {K : Sl × Int → Heap → Prop} (h : Rels H rs m.rels) (hl : m.rels.length < 4611686018427387904) (ho : 0 ≤ m.opts ∧ m.opts < 256)
    (hK0 : mayM m = false → ∀ A', Ext H A' → K (Sl.mk none 0 0, 2) A')
    (hK1 : mayM m = true → ∀ s A', Byts A' s (encM m) → (∀ b, ownB s b → H.size ≤ b) → Ext H A' → K (s, 0) A') : fathomref28_Encode.sp m.opts m.next m.input m.terms rs H K := by
  refine fathomref28_Encode.of ?_
  unfold fathomref28_Encode.vc
  refine newC_rowT fun H1 z1 r1 e1 => ?_
  have rM : RowT H1 H.size ty_api_Manifest (headM m.opts m.next m.input m.terms rs) := r1
  refine mf_ld rM ?_
  refine rmay_ok (h.ext e1) hl fun H2 e2 => ?_
  refine br_mk (fun q => hK0 (by simpa using q) H2 (e1.trans e2)) (fun q => ?_)
  have hm : mayM m = true := by simpa using q
  refine mf_ld (rM.ext e2) ?_
  refine RBytes_ok (h.ext (e1.trans e2)) hm ho fun H3 e3 => ?_
  refine toBytes_ok fun s H4 b4 e4 f4 => ?_
  have e03 := (e1.trans e2).trans e3
  exact hK1 hm s H4 b4 (fun b hb => Nat.le_trans e03.size (f4 b hb)) (e03.trans e4)

/-- What the walk of the document's 'Decode' asks behind the manifest's relations. -/
def rdecTail (b : Sl) (p r_p p_1 : Addr) (n : Int) (H14 : Heap) (R : ((Int × Int × ByteArray × ByteArray × Sl) × Int) → Heap → Prop) : Prop :=
  ld cBool H14 (r_p.add 2) fun (x_5 : Bool) => br (!x_5) (doU Tryz.prog (Instr.storeAt ty_api_Manifest (.pointer (some p)) (.agg #[(.int .u8 (0 : Int)), (.int .i64 (0 : Int)), (.string ByteArray.empty), (.string ByteArray.empty), (.slice none 0 0)])) H14 fun H25 => ldA (cAgg [(cInt .u8), (cInt .i64), cStr, cStr, cSl]) 5 H25 p fun (res_2 : (Int × Int × ByteArray × ByteArray × Sl)) => R ((res_2.1, res_2.2.1, res_2.2.2.1, res_2.2.2.2.1, res_2.2.2.2.2), (280 : Int)) H25) (ld (cInt .i64) H14 (r_p.add 1) fun (x_6 : Int) => br (x_6 != (b.n : Int)) (doU Tryz.prog (Instr.storeAt ty_api_Manifest (.pointer (some p)) (.agg #[(.int .u8 (0 : Int)), (.int .i64 (0 : Int)), (.string ByteArray.empty), (.string ByteArray.empty), (.slice none 0 0)])) H14 fun H26 => ldA (cAgg [(cInt .u8), (cInt .i64), cStr, cStr, cSl]) 5 H26 p fun (res_3 : (Int × Int × ByteArray × ByteArray × Sl)) => R ((res_3.1, res_3.2.1, res_3.2.2.1, res_3.2.2.2.1, res_3.2.2.2.2), (280 : Int)) H26) (ld cSl H14 (p_1.add 4) fun (x_7 : Sl) => br ((x_7.n : Int) != n) (doU Tryz.prog (Instr.storeAt ty_api_Manifest (.pointer (some p)) (.agg #[(.int .u8 (0 : Int)), (.int .i64 (0 : Int)), (.string ByteArray.empty), (.string ByteArray.empty), (.slice none 0 0)])) H14 fun H27 => ldA (cAgg [(cInt .u8), (cInt .i64), cStr, cStr, cSl]) 5 H27 p fun (res_4 : (Int × Int × ByteArray × ByteArray × Sl)) => R ((res_4.1, res_4.2.1, res_4.2.2.1, res_4.2.2.2.1, res_4.2.2.2.2), (280 : Int)) H27) (ldA (cAgg [(cInt .u8), (cInt .i64), cStr, cStr, cSl]) 5 H14 p_1 fun (x_8 : (Int × Int × ByteArray × ByteArray × Sl)) => fathomref28_May.sp x_8.1 x_8.2.1 x_8.2.2.1 x_8.2.2.2.1 x_8.2.2.2.2 H14 fun (r_6 : Bool) H28 => br (!r_6) (doU Tryz.prog (Instr.storeAt ty_api_Manifest (.pointer (some p)) (.agg #[(.int .u8 (0 : Int)), (.int .i64 (0 : Int)), (.string ByteArray.empty), (.string ByteArray.empty), (.slice none 0 0)])) H28 fun H29 => ldA (cAgg [(cInt .u8), (cInt .i64), cStr, cStr, cSl]) 5 H29 p fun (res_5 : (Int × Int × ByteArray × ByteArray × Sl)) => R ((res_5.1, res_5.2.1, res_5.2.2.1, res_5.2.2.2.1, res_5.2.2.2.2), (280 : Int)) H29) (ldA (cAgg [(cInt .u8), (cInt .i64), cStr, cStr, cSl]) 5 H28 p_1 fun (x_9 : (Int × Int × ByteArray × ByteArray × Sl)) => doU Tryz.prog (Instr.storeAt ty_api_Manifest (.pointer (some p)) (.agg #[(.int .u8 x_9.1), (.int .i64 x_9.2.1), (.string x_9.2.2.1), (.string x_9.2.2.2.1), x_9.2.2.2.2.v])) H28 fun H30 => ldA (cAgg [(cInt .u8), (cInt .i64), cStr, cStr, cSl]) 5 H30 p fun (res_6 : (Int × Int × ByteArray × ByteArray × Sl)) => R ((res_6.1, res_6.2.1, res_6.2.2.1, res_6.2.2.2.1, res_6.2.2.2.2), (0 : Int)) H30))))

set_option maxRecDepth 100000 in
theorem rdec_tail {H0 A : Heap} {b0 q b1 n : Nat} {b : Sl} {l : List UInt8} {cs : Array Value} {s : Option (List UInt8)} {acc : List Sv} {rs : Sl} {R : ((Int × Int × ByteArray × ByteArray × Sl) × Int) → Heap → Prop} {o nx : Int} {it tt : ByteArray} (hbn : b.n = l.length)
    (e : Ext H0 A) (h0 : H0.size ≤ b0) (h01 : b0 ≠ b1) (r0 : RowT A b0 ty_api_Manifest cs) (hcs : cs.size = 5) (rd : RdR H0 A q l s) (r1 : RowT A b1 ty_api_Manifest (headM o nx it tt rs)) (hr : SlE ESv ty_api_Saved A rs acc) (hacc : acc.length ≤ 1000)
    (hK0 : ¬ (s = some [] ∧ acc.length = n ∧ mayM ⟨o, nx, it, tt, acc⟩ = true) → ∀ A', Ext H0 A' → R failM A')
    (hK1 : s = some [] → acc.length = n → mayM ⟨o, nx, it, tt, acc⟩ = true → ∀ A', SlE ESv ty_api_Saved A' rs acc → Ext H0 A' → R ((o, nx, it, tt, rs), 0) A') : rdecTail b ⟨b0, 0, none⟩ ⟨q, 0, none⟩ ⟨b1, 0, none⟩ (n : Int) A R := by
  unfold rdecTail
  have ext0 : ∀ {B B' : Heap}, Ext H0 B → Mod (fun x => x = b0) B B' → Ext H0 B' := fun e m => ext_at e h0 m
  refine rd.ok ?_
  refine br_mk (fun hc => dec_fail r0 hcs fun A' m => hK0 (fun hh => by rw [hh.1] at hc; cases hc) A' (ext0 e m)) (fun hc => ?_)
  cases s with
  | none => cases hc
  | some rest =>
  obtain ⟨sl, a, q1, q2, q3, q4, rfl⟩ := rd
  refine q1.ld (c := cInt .i64) (i := 1) (x := (a : Int)) rfl ?_
  refine br_mk (fun hc2 => dec_fail r0 hcs fun A' m => hK0 (fun hh => by
    have h1 : l.drop a = [] := Option.some.inj hh.1
    have h2 := congrArg List.length h1
    rw [List.length_drop] at h2
    simp at h2
    have h3 : a = l.length := by omega
    rw [hbn, h3] at hc2; simp at hc2) A' (ext0 e m)) (fun hc2 => ?_)
  have hl0 : l.drop a = [] := by
    rw [hbn] at hc2
    have : (a : Int) = (l.length : Int) := by simpa using hc2
    rw [List.drop_eq_nil_iff]; omega
  have hrn := hr.n (by decide)
  refine r1.ld (c := cSl) (i := 4) (x := rs) rfl ?_
  refine br_mk (fun hc3 => dec_fail r0 hcs fun A' m => hK0 (fun hh => by
    rw [hrn, hh.2.1] at hc3; simp at hc3) A' (ext0 e m)) (fun hc3 => ?_)
  have hnn : acc.length = n := by
    rw [hrn] at hc3
    have : (acc.length : Int) = (n : Int) := by simpa using hc3
    omega
  refine mf_ld r1 ?_
  refine rmay_ok (m := ⟨o, nx, it, tt, acc⟩) hr.rels (by simp only; omega) fun A1 e1 => ?_
  have r0' := r0.ext e1
  have r1' := r1.ext e1
  refine br_mk (fun hc4 => dec_fail r0' hcs fun A' m => hK0 (fun hh => by rw [hh.2.2] at hc4; cases hc4) A' (ext0 (e.trans e1) m)) (fun hc4 => ?_)
  have hm : mayM ⟨o, nx, it, tt, acc⟩ = true := by
    cases q : mayM ⟨o, nx, it, tt, acc⟩ with
    | true => rfl
    | false => rw [q] at hc4; cases hc4
  refine mf_ld r1' ?_
  refine mf_put r0' hcs fun A2 r2 m2 _ => mf_ld r2 ?_
  refine hK1 (by rw [hl0]) hnn hm A2 ((hr.ext e1).keep fun b hb hl => m2.same b hl fun q => ?_) (ext0 (e.trans e1) m2)
  obtain ⟨c, hc5⟩ := (hr.ext e1).obj b hb
  rw [q] at hc5
  exact absurd (cells_ty r0' hc5) (by decide)

set_option maxHeartbeats 2000000 in
set_option maxRecDepth 100000 in
theorem RDecode_ok {b : Sl} {l : List UInt8} {H : Heap} {R : ((Int × Int × ByteArray × ByteArray × Sl) × Int) → Heap → Prop} (hb : Byts H b l) (hc : b.n ≤ b.c) (hl : l.length < 4611686018427387904)
    (hK0 : decM l = none → ∀ A', Ext H A' → R failM A')
    (hK1 : ∀ m rs A', decM l = some m → SlE ESv ty_api_Saved A' rs m.rels → (∀ b, ownB rs b → H.size ≤ b) → Ext H A' → R ((m.opts, m.next, m.input, m.terms, rs), 0) A') : fathomref28_Decode.sp b H R := by
  refine fathomref28_Decode.of ?_
  unfold fathomref28_Decode.vc
  rw [zc_mf]
  have hbn := hb.n
  refine newC_rowT fun H1 z1 r1 e1 => ?_
  have r1' : RowT H1 H.size ty_api_Manifest (headM 0 0 ByteArray.empty ByteArray.empty (Sl.mk none 0 0)) := r1
  refine br_mk (fun h2 => ?_) (fun h2 => ?_)
  · have h2 : l.length < 2 := by rw [hbn] at h2; have : (l.length : Int) < 2 := by simpa using h2
                                 omega
    exact dec_fail r1' rfl fun A' m => hK0 (by unfold decM; rw [if_pos (.inl h2)]) A' (ext_at e1 (Nat.le_refl _) m)
  have h2 : 2 ≤ l.length := by rw [hbn] at h2; have : ¬ (l.length : Int) < 2 := by simpa using h2
                               omega
  have g0 : l[0]'(by omega) = l.getD 0 0 := by rw [List.getD, List.getElem?_eq_getElem (by omega)]; rfl
  have g1 : l[1]'(by omega) = l.getD 1 0 := by rw [List.getD, List.getElem?_eq_getElem (by omega)]; rfl
  refine byte_of (hb.ext e1) (i := 0) (by omega) rfl fun ad ha => ?_
  rw [g0]
  refine br_mk (fun q => ?_) (fun q => ?_)
  · have q : l.getD 0 0 ≠ 1 := fun h => by rw [h] at q; simp at q
    exact dec_fail r1' rfl fun A' m => hK0 (by unfold decM; rw [if_pos (.inr q)]) A' (ext_at e1 (Nat.le_refl _) m)
  have h1 : l.getD 0 0 = 1 := by
    have : ((l.getD 0 0).toNat : Int) = 1 := by simpa using q
    have h3 : (l.getD 0 0).toNat = 1 := by omega
    exact UInt8.toNat_inj.1 (by rw [h3]; rfl)
  refine newC_rowT fun H2 z2 r2 e2 => ?_
  have e12 := e1.trans e2
  have d2 : RdR H H2 H1.size l (some (l.drop 2)) := ⟨b, 2, r2, hb, hc, h2, rfl⟩
  refine byte_of (hb.ext e12) (i := 1) (by omega) rfl fun ad1 ha1 => ?_
  rw [g1]
  refine newC_rowT fun H3 z3 r3 e3 => ?_
  have e13 := e12.trans e3
  refine mf_put (s := Sl.mk none 0 0) r3 rfl fun H4 r4 m4 z4 => ?_
  have e4 : Ext H H4 := ext_at e13 (by omega) m4
  have d4 : RdR H H4 H1.size l (some (l.drop 2)) := (d2.mod (Ext.mod (F := fun _ => False) e3) id).mod m4 (by omega)
  have r04 : RowT H4 H.size ty_api_Manifest (headM 0 0 ByteArray.empty ByteArray.empty (Sl.mk none 0 0)) := ((r1'.ext e2).ext e3).mod m4 (by omega)
  have hqs : H.size ≤ H1.size := by omega
  have hbs : H.size ≤ H2.size := by omega
  have h0q : H.size ≠ H1.size := by omega
  have h01 : H.size ≠ H2.size := by omega
  have hq1 : H1.size ≠ H2.size := by omega
  generalize H1.size = q at *
  generalize hb1 : H2.size = b1 at *
  generalize hs : some (l.drop 2) = s at *
  refine rnumber_ok e4 (by omega) hl d4 fun H5 d5 m5 z5 => ?_
  have e5 := ext_at e4 (by omega) m5
  have r5 := r4.mod m5 (fun x => hq1 x.symm)
  refine r5.st (i := 1) (by show 1 < 5; decide) rfl fun H6 r6 m6 z6 => ?_
  have r6 : RowT H6 b1 ty_api_Manifest (headM ((l.getD 1 0).toNat : Int) ((mNum s).1 : Int) ByteArray.empty ByteArray.empty (Sl.mk none 0 0)) := r6
  have e6 := ext_at e5 (by omega) m6
  refine rreadtext_ok e6 (by omega) hl (d5.mod m6 hq1) fun H7 d7 m7 z7 => ?_
  have e7 := ext_at e6 (by omega) m7
  refine (r6.mod m7 (fun x => hq1 x.symm)).st (i := 2) (by show 2 < 5; decide) rfl fun H8 r8 m8 z8 => ?_
  have r8 : RowT H8 b1 ty_api_Manifest (headM ((l.getD 1 0).toNat : Int) ((mNum s).1 : Int) (mTxt (mNum s).2).1 ByteArray.empty (Sl.mk none 0 0)) := r8
  have e8 := ext_at e7 (by omega) m8
  refine rreadtext_ok e8 (by omega) hl (d7.mod m8 hq1) fun H9 d9 m9 z9 => ?_
  have e9 := ext_at e8 (by omega) m9
  refine (r8.mod m9 (fun x => hq1 x.symm)).st (i := 3) (by show 3 < 5; decide) rfl fun H10 r10 m10 z10 => ?_
  have r10 : RowT H10 b1 ty_api_Manifest (headM ((l.getD 1 0).toNat : Int) ((mNum s).1 : Int) (mTxt (mNum s).2).1 (mTxt (mTxt (mNum s).2).2).1 (Sl.mk none 0 0)) := r10
  have e10 := ext_at e9 (by omega) m10
  have r010 : RowT H10 H.size ty_api_Manifest (headM 0 0 ByteArray.empty ByteArray.empty (Sl.mk none 0 0)) := (((((r04.mod m5 h0q).mod m6 h01).mod m7 h0q).mod m8 h01).mod m9 h0q).mod m10 h01
  refine rnumber_ok e10 (by omega) hl (d9.mod m10 hq1) fun H11 d11 m11 z11 => ?_
  obtain ⟨o, ho⟩ : ∃ o, o = ((l.getD 1 0).toNat : Int) := ⟨_, rfl⟩
  obtain ⟨nx, hnx⟩ : ∃ nx, nx = ((mNum s).1 : Int) := ⟨_, rfl⟩
  obtain ⟨it, hit⟩ : ∃ it, it = (mTxt (mNum s).2).1 := ⟨_, rfl⟩
  obtain ⟨tt, htt⟩ : ∃ tt, tt = (mTxt (mTxt (mNum s).2).2).1 := ⟨_, rfl⟩
  obtain ⟨st, hst⟩ : ∃ st, st = (mTxt (mTxt (mNum s).2).2).2 := ⟨_, rfl⟩
  have hlt := num_lt st
  have hdec : decM l = if (mSvs (min (mNum st).1 257) (mNum st).2).2 = some [] ∧ (mSvs (min (mNum st).1 257) (mNum st).2).1.length = (mNum st).1 ∧ mayM ⟨o, nx, it, tt, (mSvs (min (mNum st).1 257) (mNum st).2).1⟩ = true then some ⟨o, nx, it, tt, (mSvs (min (mNum st).1 257) (mNum st).2).1⟩ else none := by
    unfold decM
    rw [if_neg (by rw [h1]; simp; omega)]
    unfold rdM mHead
    simp only
    rw [hs, ho, hnx, hit, htt, hst]
  rw [← ho, ← hnx, ← hit, ← htt] at r10
  rw [← hst] at d11 ⊢
  generalize hn : (mNum st).1 = n at *
  generalize hs0 : (mNum st).2 = s0 at *
  have r11 := r10.mod m11 (fun x => hq1 x.symm)
  have r011 := r010.mod m11 h0q
  have tail : ∀ (A : Heap) (acc : List Sv) (rs : Sl) (sx : Option (List UInt8)), Ext H A → RdR H A q l sx → RowT A b1 ty_api_Manifest (headM o nx it tt rs) → SlE ESv ty_api_Saved A rs acc → (∀ b, ownB rs b → H.size ≤ b) → RowT A H.size ty_api_Manifest (headM 0 0 ByteArray.empty ByteArray.empty (Sl.mk none 0 0)) → acc.length ≤ 257 →
      (mSvs (min n 257) s0).1 = acc → (mSvs (min n 257) s0).2 = sx → rdecTail b ⟨H.size, 0, none⟩ ⟨q, 0, none⟩ ⟨b1, 0, none⟩ (n : Int) A R := by
    intro A acc rs sx eA rdA rA hA fA r0A hacc hx1 hx2
    rw [hx1, hx2] at hdec
    refine rdec_tail hbn eA (Nat.le_refl _) h01 r0A rfl rdA rA hA (by omega) (fun hno A' e' => hK0 ?_ A' e') (fun q1 q2 q3 A' hA' e' => hK1 ⟨o, nx, it, tt, acc⟩ rs A' ?_ hA' fA e')
    · rw [hdec, if_neg hno]
    · rw [hdec, if_pos ⟨q1, q2, q3⟩]
  refine loop_upto (min n 257) (fun i z A => z = (i : Int) ∧ ∃ acc rs sx, Ext H A ∧ RdR H A q l sx ∧ RowT A b1 ty_api_Manifest (headM o nx it tt rs) ∧ SlE ESv ty_api_Saved A rs acc ∧ (∀ b, ownB rs b → H.size ≤ b) ∧ RowT A H.size ty_api_Manifest (headM 0 0 ByteArray.empty ByteArray.empty (Sl.mk none 0 0)) ∧ acc.length = i ∧
    (mSvs (min n 257) s0).1 = acc ++ (mSvs (min n 257 - i) sx).1 ∧ (mSvs (min n 257) s0).2 = (mSvs (min n 257 - i) sx).2)
    ⟨rfl, [], Sl.mk none 0 0, s0, ext_at e10 (by omega) m11, d11, r11, SlE.nil _ _ _, fun b hb => (by obtain ⟨_, q, _⟩ := hb; cases q), r011, rfl, by simp, by simp⟩ ?_
  rintro i _ A next hi ⟨rfl, acc, rs, sx, eA, rdx, rA, hA, fA, r0A, hacc, hx1, hx2⟩ hnext
  refine br_mk (fun hc1 => ?_) (fun hc1 => ?_)
  · have hin : i < n := by simpa using hc1
    refine rdx.ok ?_
    refine br_mk (fun hc2 => ?_) (fun hc2 => ?_)
    · simp only [Bool.and_eq_true, decide_eq_true_eq] at hc2
      have hiN : i < min n 257 := by omega
      cases sx with
      | none => cases hc2.1
      | some bx =>
      obtain ⟨y1, y2⟩ := svs_snoc hiN hx1 hx2
      have zA := eA.size
      have lb1 := obj_lt rA
      have lq := obj_lt rdx.row.choose_spec
      have hqb : ∀ {B B' : Heap} {cs : Array Value} {k : Nat}, k ≠ q → RowT B k ty_api_Manifest cs → Mod (fun b => b = q) B B' → RowT B' k ty_api_Manifest cs := fun hk r m => r.mod m hk
      have hrq : ∀ {B B' : Heap} {k : Nat} {t : TypeId}, SlE ESv ty_api_Saved B rs acc → (∃ cs', RowT B k t cs') → t ≠ ty_api_Saved → Mod (fun b => b = k) B B' → SlE ESv ty_api_Saved B' rs acc := fun h r ht m => h.keep fun b hb hl => m.same b hl fun x => by
        obtain ⟨c, hc5⟩ := h.obj b hb
        obtain ⟨cs', r⟩ := r
        rw [x] at hc5
        exact ht (cells_ty r hc5)
      rw [zc_sv]
      refine newC_rowT fun A0 y0 s0' f0 => ?_
      have hA0 : SlE ESv ty_api_Saved A0 rs acc := hA.ext f0
      have offA : ¬ ownB rs A.size := fun hb => by have := hA.lt _ hb; omega
      have hro : ∀ {B B' : Heap}, SlE ESv ty_api_Saved B rs acc → Mod (fun b => b = A.size) B B' → SlE ESv ty_api_Saved B' rs acc := fun h m => h.keep fun b hb hl => m.same b hl fun x => offA (x ▸ hb)
      refine rreadtext_ok (eA.trans f0) (by omega) hl (rdx.mod (Ext.mod (F := fun _ => False) f0) id) fun A1 d1 m1 w1 => ?_
      refine (s0'.mod m1 (by omega)).st (i := 0) (by show 0 < 3; decide) rfl fun A2 s2 m2 w2 => ?_
      have e1' := ext_at (eA.trans f0) (by omega) m1
      have e2' := ext_at e1' (by omega) m2
      refine rreadtext_ok e2' (by omega) hl (d1.mod m2 (by omega)) fun A3 d3 m3 w3 => ?_
      refine (RowT.mod s2 m3 (by omega)).st (i := 1) (by show 1 < 3; decide) rfl fun A4 s4 m4 w4 => ?_
      have e3' := ext_at e2' (by omega) m3
      have e4' := ext_at e3' (by omega) m4
      refine rnumber_ok e4' (by omega) hl (d3.mod m4 (by omega)) fun A5 d5 m5 w5 => ?_
      refine (RowT.mod s4 m5 (by omega)).st (i := 2) (by show 2 < 3; decide) rfl fun A6 s6 m6 w6 => ?_
      have e5' := ext_at e4' (by omega) m5
      have e6' := ext_at e5' (by omega) m6
      have s6 : RowT A6 A.size ty_api_Saved #[.string (mSv (some bx)).1.rel, .string (mSv (some bx)).1.file, .int .i64 (mSv (some bx)).1.rows] := s6
      have keepM : ∀ {k : Nat} {cs : Array Value}, k ≠ q → k ≠ A.size → RowT A k ty_api_Manifest cs → RowT A6 k ty_api_Manifest cs := fun h1 h2 r => ((((((r.ext f0).mod m1 h1).mod m2 h2).mod m3 h1).mod m4 h2).mod m5 h1).mod m6 h2
      have o1 := hrq hA0 (rdx.mod (Ext.mod (F := fun _ => False) f0) id).row (by decide) m1
      have o2 := hro o1 m2
      have o3 := hrq o2 (d1.mod m2 (by omega)).row (by decide) m3
      have o4 := hro o3 m4
      have o5 := hrq o4 (d3.mod m4 (by omega)).row (by decide) m5
      have o6 := hro o5 m6
      have rA6 := keepM (fun x => hq1 x.symm) (by omega) rA
      have r06 := keepM h0q (by omega) r0A
      have d6 := d5.mod m6 (by omega)
      refine rA6.ld (c := cSl) (i := 4) (x := rs) rfl ?_
      refine s6.ldA (c := cAgg [cStr, cStr, cInt .i64]) (x := ((mSv (some bx)).1.rel, (mSv (some bx)).1.file, (mSv (some bx)).1.rows)) rfl rfl ?_
      refine SlE.push (E := ESv) elSv (x := (mSv (some bx)).1) o6 rfl (by omega) (by omega) fun rs' A7 o7 g7 _ => ?_
      have offb : ∀ {b : Nat} {t : TypeId} {cs' : Array Value}, RowT A6 b t cs' → t ≠ ty_api_Saved → ¬ ownB rs b := fun r ht hb => by
        obtain ⟨c, hc5⟩ := o6.obj _ hb
        exact ht (cells_ty r hc5)
      have r7 := rA6.mod g7.1 (offb rA6 (by decide))
      have d7' := d6.mod g7.1 (offb d6.row.choose_spec (by decide))
      have r07 := r06.mod g7.1 (offb r06 (by decide))
      have e7' : Ext H A7 := ⟨Nat.le_trans e6'.size g7.1.size, fun b hb _ => (g7.1.same b (Nat.lt_of_lt_of_le hb e6'.size) fun x => by have := fA b x; omega).trans (e6'.same b hb id)⟩
      have f7 : ∀ b, ownB rs' b → H.size ≤ b := fun b hb => by
        rcases g7.2 b hb with x | x
        · exact fA b x
        · exact Nat.le_trans e6'.size x
      refine r7.st (i := 4) (by show 4 < 5; decide) rfl fun A8 r8' m8' z8' => ?_
      have offc : ∀ {b : Nat} {t : TypeId} {cs' : Array Value}, RowT A7 b t cs' → t ≠ ty_api_Saved → ¬ ownB rs' b := fun r ht hb => by
        obtain ⟨c, hc5⟩ := o7.obj _ hb
        exact ht (cells_ty r hc5)
      refine hnext hiN _ _ ⟨succ64 i (by omega), acc ++ [(mSv (some bx)).1], rs', (mSv (some bx)).2, ext_at e7' (by omega) m8', d7'.mod m8' hq1, r8', o7.keep fun b hb hl => m8'.same b hl fun x => offc r7 (by decide) (x ▸ hb), f7, r07.mod m8' h01, by simp [hacc], y1, y2⟩
    · have hor : sx = none ∨ 257 ≤ i := by
        cases sx with
        | none => exact .inl rfl
        | some bx =>
          right
          have : ¬ (i : Int) ≤ 256 := by simpa using hc2
          omega
      rcases hor with rfl | hge
      · rw [svs_none] at hx1 hx2
        exact tail A acc rs none eA rdx rA hA fA r0A (by omega) (by simpa using hx1) hx2
      · have hz : min n 257 - i = 0 := by omega
        rw [hz] at hx1 hx2
        exact tail A acc rs sx eA rdx rA hA fA r0A (by omega) (by simpa [mSvs] using hx1) hx2
  · have hge : min n 257 - i = 0 := by
      have : ¬ (i : Int) < (n : Int) := by simpa using hc1
      omega
    rw [hge] at hx1 hx2
    exact tail A acc rs sx eA rdx rA hA fA r0A (by omega) (by simpa [mSvs] using hx1) hx2
end Go.Proofs.YtjjfngnokbboeaaGreatDoor
