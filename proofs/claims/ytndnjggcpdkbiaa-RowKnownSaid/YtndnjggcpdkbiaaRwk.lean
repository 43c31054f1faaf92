/-
  Rows: laid, and read again: the statement's call.
-/
import Derived.Test.YtndnjggcpdkbiaaRwh
namespace Go.Proofs.Ytndnjggcpdkbiaa

def cutL (x : List Int) (w : Nat) : List Int := (List.range w).map fun j => x.getD j 0
theorem cutL_length (x : List Int) (w : Nat) : (cutL x w).length = w := by simp [cutL]
theorem cutL_fits {x : List Int} (h : fitsL x) (w : Nat) : fitsL (cutL x w) := by
  intro v hv
  obtain ⟨j, _, rfl⟩ := List.mem_map.1 hv
  simp only [List.getD]
  cases q : x[j]? with
  | none => simp
  | some u => exact h u (List.mem_of_getElem? q)

theorem allL_succ {ls : List (List Int)} {k : Nat} (hk : k < ls.length) (w : Nat) : (ls.take (k + 1)).map (cutL · w) = (ls.take k).map (cutL · w) ++ [cutL ls[k] w] := by
  rw [List.take_succ_eq_append_getElem hk, List.map_append]; rfl

theorem RowsOwn.old {H : Heap} {base : Nat} {s : Sl} {rs : List Sl} {ls : List (List Int)} (h : RowsOwn H base s rs ls) {i : Nat} (hi : i < ls.length) :
    ∃ ad r, s.a = some ad ∧ (∀ H', Ext H H' → hCell H' (ad.add i) = some (Sl.v r)) ∧ Owns H base ty_uint64 1 r ((ls[i]'hi).map (Value.int .u64)) := by
  have hir : i < rs.length := by rw [h.len]; exact hi
  obtain ⟨ad, ha, hc⟩ := h.out.reads.at (i := i) (by simpa using hir)
  exact ⟨ad, rs[i], ha, fun H' e => Mod.cell e (by simpa using hc) id, h.row i _ _ (List.getElem?_eq_getElem hir) (List.getElem?_eq_getElem hi)⟩

theorem sizeW (w : Nat) (hw : w ≤ 16) : (if (8 : Int) * (w : Int) > 1 then 8 * (w : Int) else 1) = (((sizeL w).toNat : Nat) : Int) := by
  have h1 : sizeL (w : Int) = if (w : Int) = 0 then 1 else 8 * (w : Int) := by
    unfold sizeL
    rw [if_neg (show ¬ ((w : Int) < 0 ∨ (w : Int) > 16) by omega)]
  rw [h1]
  by_cases h : (w : Int) = 0
  · rw [if_pos h, if_neg (show ¬ (8 : Int) * (w : Int) > 1 by omega)]; rfl
  · rw [if_neg h, if_pos (show (8 : Int) * (w : Int) > 1 by omega)]; omega

set_option maxHeartbeats 1000000 in
theorem RowBack_ok {p : Sl} {ls : List (List Int)} {how : Int} {H : Heap} {K : Bool → Heap → Prop} (pn : p.n = ls.length)
    (hr : ∀ i (hi : i < ls.length), ∃ ad rr, p.a = some ad ∧ hCell H (ad.add i) = some (Sl.v rr) ∧ Ints .u64 H rr ls[i] ∧ rr.n ≤ rr.c ∧ ∀ n ∈ ls[i], (Lit.int .u64 n).wf = true)
    (_ : -9223372036854775808 ≤ how ∧ how ≤ 9223372036854775807) (hK : ∀ H', Ext H H' → K true H') : fathomlaw06_RowBack.sp p how H K := by
  refine fathomlaw06_RowBack.of ?_
  unfold fathomlaw06_RowBack.vc
  refine Pick_ok (by omega) ?_
  rw [if_neg (by omega)]
  obtain ⟨w, hwe⟩ : ∃ w : Nat, how.emod 17 = (w : Int) := ⟨(how.emod 17).toNat, by
    have e : how.emod 17 = how % 17 := rfl
    omega⟩
  have hw : w ≤ 16 := by
    have e : how.emod 17 = how % 17 := rfl
    omega
  rw [hwe]
  refine br_mk (fun h => hK _ (.refl _ _)) (fun h => ?_)
  have h60 : ls.length ≤ 60 := by simp at h; omega
  have hfit : ∀ i (hi : i < ls.length), fitsL ls[i] := by
    intro i hi x hx
    obtain ⟨_, _, _, _, _, _, q⟩ := hr i hi
    have := q x hx
    simp only [Lit.wf, Bool.and_eq_true, decide_eq_true_eq] at this
    have h1 : IntKind.u64.min = 0 := rfl
    have h2 : IntKind.u64.max = 18446744073709551615 := rfl
    omega
  have hps := put_len (l := List.replicate w 0) (w := w) (by simp) hw
  obtain ⟨m, hm⟩ : ∃ m, m = (sizeL w).toNat := ⟨_, rfl⟩
  have hm128 : m ≤ 128 := by have := sizeL_cases w; omega
  refine loop_upto ls.length (fun k z H' => z.2.2 = (k : Int) ∧ (∃ rs, RowsOwn H' H.size z.1 rs ((ls.take k).map (cutL · w))) ∧ Owns H' H.size ty_uint8 1 z.2.1 ((((ls.take k).map (cutL · w)).flatMap putL).map (Value.int .u8)) ∧ z.2.1.n = k * m ∧ Ext H H')
    ⟨rfl, ⟨[], RowsOwn.nil _ _⟩, Owns.nil _ _ _ _, by simp, Mod.refl _ _⟩ ?_
  rintro k ⟨all, b, i⟩ H2 next hk ⟨hi, ⟨rs, ro⟩, ob, hbn, e2⟩ hnext
  simp only at hi ro ob hbn ⊢
  subst hi
  have han := ro.n
  simp only [List.length_map, List.length_take] at han
  have hkm : k * m ≤ 60 * 128 := Nat.mul_le_mul (by omega) hm128
  refine br_mk (fun h => ?_) (fun h => ?_)
  · have hlt : k < ls.length := by simp at h; omega
    obtain ⟨ad, rr, hpa, hcell, irr, hcc, _⟩ := hr k hlt
    refine loop_upto w (fun j z H' => z.2 = (j : Int) ∧ z.1.n = j ∧ Owns H' H.size ty_uint64 1 z.1 (((cutL ls[k] w).take j).map (Value.int .u64)) ∧ (∀ c, ownB z.1 c → H2.size ≤ c) ∧ Ext H2 H') ⟨rfl, rfl, Owns.nil _ _ _ _, (by rintro c ⟨ad, q, _⟩; cases q), Mod.refl _ _⟩ ?_
    rintro j ⟨l, i⟩ H3 next3 hj ⟨hi, hln, ol, hlb, e3⟩ hnext3
    simp only at hi hln ol hlb ⊢
    subst hi
    have e03 : Ext H H3 := e2.trans e3
    refine br_mk (fun h2 => ?_) (fun h2 => ?_)
    · have hjw : j < w := by simp at h2; omega
      have hread : ∀ {Q : Sl → Prop}, Q rr → optK p.a fun a => (0 ≤ (k : Int) ∧ (k : Int) < (p.n : Int)) ∧ ld cSl H3 (a.add ((k : Int).toNat * 1)) Q := by
        intro Q hQ
        refine optK_mk ad hpa ⟨by omega, rr, ?_, hQ⟩
        simp only [Int.toNat_natCast, Nat.mul_one]
        exact Mod.cell e03 hcell id
      have step : ∀ (s' : Sl) (H' : Heap), s'.n = l.n + 1 → Owns H' H.size ty_uint64 1 s' (((cutL ls[k] w).take j).map (Value.int .u64) ++ [.int .u64 (ls[k].getD j 0)]) → Mod (ownB l) H3 H' → (∀ b, ownB s' b → ownB l b ∨ H3.size ≤ b) → next3 (s', IntKind.i64.wrap ((j : Int) + 1)) H' := by
        intro s' H' n' o' m' b'
        refine hnext3 hjw _ _ ⟨by rw [succ64 j (by omega)], by simp only; omega, ?_, fun c hc => ?_, (e3.mod (F := ownB l).trans m').ext hlb⟩
        · simp only
          have hjl : j < (cutL ls[k] w).length := by rw [cutL_length]; exact hjw
          rw [List.take_succ_eq_append_getElem hjl, List.map_append]
          have : (cutL ls[k] w)[j]'hjl = ls[k].getD j 0 := by simp [cutL]
          rw [this]; exact o'
        · rcases b' c hc with q | q
          · exact hlb c q
          · exact Nat.le_trans e3.size q
      refine hread ?_
      refine br_mk (fun h4 => ?_) (fun h4 => ?_)
      · have hjr : j < ls[k].length := by have := irr.len; simp at h4; omega
        refine hread ?_
        refine ints_get (irr.ext e03) (i := (j : Int)) (j := j) rfl hjr fun ad2 q2 => ?_
        refine elU64.push (base := H.size) ol rfl (by omega) (by omega) e03.size ?_
        intro s' H' n' o' m' b' _
        exact step s' H' n' o' m' b'
      · have hjr : ls[k].length ≤ j := by have := irr.len; simp at h4; omega
        have h0 : ls[k].getD j 0 = 0 := by simp [List.getD, List.getElem?_eq_none hjr]
        rw [h0] at step
        refine elU64.push (base := H.size) ol rfl (by omega) (by omega) e03.size ?_
        intro s' H' n' o' m' b' _
        exact step s' H' n' o' m' b'
    · have hjw : j = w := by simp at h2; omega
      subst hjw
      rw [List.take_of_length_le (by rw [cutL_length]; exact Nat.le_refl _)] at ol
      have hcl := cutL_length ls[k] j
      have hcf := cutL_fits (hfit k hlt) j
      refine rowPut_ok ol.ints (by omega) fun r1 H8 o8 e8 => ?_
      have ol8 := ol.ext e8
      have ro8 := (ro.ext e3).ext e8
      have ob8 := (ob.ext e3).ext e8
      have e08 : Ext H H8 := e03.trans e8
      have hpl := (put_len hcl hw).1
      have hr1n : r1.n = m := by have := o8.ints.len; omega
      have hnewrow : ∀ r' ∈ rs, ∀ x, ownB l x → ¬ ownB r' x := by
        intro r' hr' x hx hx'
        have h1 := (ro.block.2 r' hr' x hx').2
        have h2 := hlb x hx
        omega
      -- the round's end
      have finish : ∀ H10 : Heap, Ext H8 H10 → newC H10 #[l.v] ty_sl_uint64 fun p_3 H11 => doT cSl Try.prog (Builtin.append_ #[ty_sl_sl_uint64, ty_sl_sl_uint64] ty_sl_sl_uint64 #[all.v, (.slice (some p_3) 1 1)]) H11 fun s_2 H12 =>
          doT cSl Try.prog (Builtin.append_ #[ty_sl_uint8, ty_sl_uint8] ty_sl_uint8 #[b.v, r1.v]) H12 fun s_3 H13 => next (s_2, s_3, IntKind.i64.wrap ((k : Int) + 1)) H13 := by
        intro H10 e10
        have e010 : Ext H H10 := e08.trans e10
        refine (ro8.ext e10).push (ol8.ext e10) hnewrow (by omega) e010.size ?_
        intro s2 H12 n12 r12 m12
        have ob12 := (ob8.ext e10).mod m12 (fun x hx hx' => (ob8.ext e10).apart (ro8.ext e10).out (by decide) x hx hx')
        have o812 : Owns H12 H3.size ty_uint8 1 r1 ((putL (cutL ls[k] j)).map (Value.int .u8)) := (o8.ext e10).mod m12 (fun x hx hx' => (o8.ext e10).apart (ro8.ext e10).out (by decide) x hx hx')
        have e12 : Ext H H12 := (e010.mod (F := ownB all).trans m12).ext (fun x hx => (ro.block.1 x hx).1)
        refine elU8.append (base := H.size) (s := b) (x := r1) ob12 (by have := o812.1; simp at this ⊢; omega) o812.reads (intsOne _ _) (by omega) (by omega) e12.size ?_
        intro s3 H13 n13 o13 m13 b13 _
        refine hnext hlt _ _ ⟨by rw [succ64 k (by omega)], ⟨rs ++ [l], ?_⟩, ?_, by simp only; rw [Nat.succ_mul]; omega, (e12.mod (F := ownB b).trans m13).ext (fun x hx => (ob.block x hx).1)⟩
        · simp only
          rw [allL_succ hlt]
          refine r12.mod m13 (fun x hx hx' => r12.out.apart ob12 (by decide) x hx hx') (fun r hr x hx hx' => ?_)
          obtain ⟨lx, hlx⟩ := r12.rowAt hr
          exact hlx.apart ob12 (by decide) x hx hx'
        · simp only
          rw [allL_succ hlt, List.flatMap_append, List.map_append]
          simpa using o13
      refine br_mk (fun h4 => ?_) (fun h4 => finish H8 (Mod.refl _ _))
      have hk0 : 0 < k := by simp at h4; omega
      have hprev : k - 1 < ((ls.take k).map (cutL · j)).length := by simp; omega
      obtain ⟨ad3, r3, ha3, hc3, o3⟩ := ro8.old hprev
      have ei : IntKind.i64.wrap ((k : Int) - 1) = ((k - 1 : Nat) : Int) := by rw [wrap64 (by omega) (by omega)]; omega
      have eprev : ((ls.take k).map (cutL · j))[k - 1]'hprev = cutL (ls[k - 1]'(by omega)) j := by simp
      rw [eprev] at o3
      rw [ei]
      have hpl3 := cutL_length (ls[k - 1]'(by omega)) j
      have hpf3 := cutL_fits (hfit (k - 1) (by omega)) j
      refine ⟨fun H' => Ext H8 H', Mod.refl _ _, ?_⟩
      refine optK_mk ad3 ha3 ⟨by omega, r3, ?_, ?_⟩
      · simp only [Int.toNat_natCast, Nat.mul_one]; exact hc3 H8 (Mod.refl _ _)
      refine rowPut_ok o3.ints (by omega) fun r2 H9 o9 e9 => ?_
      refine ⟨e9, optK_mk ad3 ha3 ⟨by omega, r3, fun H' he => ?_, ?_⟩⟩
      · simp only [Int.toNat_natCast, Nat.mul_one]; exact hc3 H' he
      refine rowCmp_ok (o3.ext e9).ints (ol8.ext e9).ints (by omega) ?_
      refine ⟨e9, ?_⟩
      have b1 := putL_range (cutL (ls[k - 1]'(by omega)) j)
      have b2 := putL_range (cutL ls[k] j)
      have hcp := cmpL_put (hpl3.trans hcl.symm) hpf3 hcf
      refine b2s_mk o9.ints b1 ?_
      refine b2s_mk (o8.ext e9).ints b2 ?_
      rw [bytesOf_less b1 b2, hcp]
      refine br_mk (fun h => by simp at h) (fun _ => ?_)
      refine b2s_mk o9.ints b1 ?_
      refine b2s_mk (o8.ext e9).ints b2 ?_
      rw [bytesOf_eq b1 b2]
      have heq : decide (putL (cutL (ls[k - 1]'(by omega)) j) = putL (cutL ls[k] j)) = (cmpL (cutL (ls[k - 1]'(by omega)) j) (cutL ls[k] j) == 0) := by
        rw [Bool.eq_iff_iff, decide_eq_true_iff, beq_iff_eq, ← hcp, cmpL_zero]
      rw [heq]
      refine br_mk (fun h => by simp at h) (fun _ => finish H9 e9)
  · have hkn : k = ls.length := by simp at h; omega
    subst hkn
    rw [List.take_of_length_le (Nat.le_refl _)] at ro ob
    have hL : ∀ l ∈ ls.map (cutL · w), l.length = w := by
      intro l hl; obtain ⟨x, _, rfl⟩ := List.mem_map.1 hl; exact cutL_length x w
    have hF : ∀ l ∈ ls.map (cutL · w), fitsL l := by
      intro l hl; obtain ⟨x, hx, rfl⟩ := List.mem_map.1 hl
      obtain ⟨i, hi, e⟩ := List.mem_iff_getElem.1 hx
      subst e
      exact cutL_fits (hfit i hi) w
    obtain ⟨g1, g2⟩ := read_again hw hL hF
    have hrange : ∀ x ∈ (ls.map (cutL · w)).flatMap putL, 0 ≤ x ∧ x < 256 := by
      intro x hx; obtain ⟨l, _, h2⟩ := List.mem_flatMap.1 hx; exact putL_range l x h2
    refine rowGet_ok ob.ints ob.cap hrange (by have := ob.ints.len; omega) fun back rs' H17 r17 e17 => ?_
    rw [g1] at r17
    rw [g2]
    refine br_mk (fun _ => ?_) (fun h => by simp at h)
    refine SameRows_ok r17.rows (ro.ext e17).rows (by simp; omega) (fun l hl => by rw [hL l hl]; omega) ?_
    rw [wrap64 (x := 8 * (w : Int)) (by omega) (by omega), sizeW w hw, ← hm, pn, wrap64 (by have := Nat.mul_comm ls.length m; push_cast [← Int.natCast_mul]; omega) (by push_cast [← Int.natCast_mul]; omega)]
    have hle : ((b.n : Int) ≤ (ls.length : Int) * (m : Int)) := by rw [hbn]; push_cast; omega
    rw [decide_eq_true rfl, decide_eq_true hle]
    refine br_mk (fun _ => ?_) (fun h => by simp at h)
    exact works_ok fun H' e => hK H' ((e2.trans e17).trans e)

end Go.Proofs.Ytndnjggcpdkbiaa
