/-
  Rows: any row laid, any bytes read: the statement's call.
-/
import Derived.Test.YtndnjggcpdkbiaaRwh
namespace Go.Proofs.Ytndnjggcpdkbiaa

theorem getL_rows {b : List Int} {w : Int} : (∀ l ∈ getL b w, l.length ≤ 16) ∧ (getL b w).length ≤ b.length := by
  unfold getL
  split
  · rename_i h
    unfold getOK at h
    simp only [Bool.and_eq_true, decide_eq_true_eq] at h
    have hw : w ≤ 16 := by
      have h1 := h.1.1
      unfold sizeL at h1
      split at h1
      · exact absurd rfl h1
      · omega
    refine ⟨fun l hl => ?_, ?_⟩
    · obtain ⟨k, _, rfl⟩ := List.mem_map.1 hl
      rw [rowOf_length]; omega
    · simp [rowsOf]; exact Nat.div_le_self _ _
  · simp

theorem putL_len (l : List Int) : (putL l).length ≤ 8 * l.length + 1 := by
  unfold putL; split
  · simp
  · rw [flat_length]; omega

set_option maxHeartbeats 1000000 in
theorem RowBytes_ok {p p1 : Sl} {la lb : List Int} {w : Int} {H : Heap} {K : Bool → Heap → Prop} (ha : Ints .u64 H p la) (hb : Ints .u8 H p1 lb) (hbb : ∀ x ∈ lb, 0 ≤ x ∧ x < 256)
    (hK : ∀ H', Ext H H' → K true H') : fathomlaw06_RowBytes.sp p p1 w H K := by
  refine fathomlaw06_RowBytes.of ?_
  unfold fathomlaw06_RowBytes.vc
  have an := ha.len
  have bn := hb.len
  refine br_mk (fun h => hK _ (.refl _ _)) (fun h => ?_)
  simp only [Bool.or_eq_false_iff, decide_eq_false_iff_not] at h
  have hrows := getL_rows (b := lb) (w := w)
  have hput := putL_len la
  have hpr := putL_range la
  refine Lent_ok ha (by omega) fun x H1 x1 e1 => ?_
  refine elU8.append (base := H1.size) (s := Sl.mk none 0 0) (x := p1) (xs := []) (ws := lb.map (Value.int .u8)) (Owns.nil _ _ _ _) (by simp; omega) (hb.ext e1).reads (intsOne _ _) (by simp only; omega) (by simp only; omega) (Nat.le_refl _) ?_
  intro s H2 sn so sm sb _
  have e2 : Ext H1 H2 := sm.ext (by rintro b ⟨ad, q, _⟩; cases q)
  have so' : Owns H2 H1.size ty_uint8 1 s (lb.map (Value.int .u8)) := by simpa using so
  refine rowPut_ok (x1.ext e2).ints (by omega) fun q H3 qo e3 => ?_
  refine rowGet_ok (so'.ext e3).ints so'.cap hbb (by omega) fun r2 rs2 H4 ro2 e4 => ?_
  refine rowGet_ok ((so'.ext e3).ext e4).ints so'.cap hbb (by omega) fun r3 rs3 H5 ro3 e5 => ?_
  have e05 : Ext H H5 := (((e1.trans e2).trans e3).trans e4).trans e5
  refine refGet_ok (hb.ext e05) (by omega) fun r4 rs4 H6 ro4 e6 => ?_
  have e06 := e05.trans e6
  have e36 : Ext H3 H6 := (e4.trans e5).trans e6
  refine ⟨fun H' => Ext H6 H', Mod.refl _ _, bytesOf (putL la), fun H' he => ((qo.ext e36).ext he).ints.bytesAt hpr, ?_⟩
  refine refPut_ok (ha.ext e06) (by omega) fun r5 H7 o5 e7 => ?_
  refine ⟨e7, b2s_mk o5.ints hpr ?_⟩
  have hf : (((!((bytesOf (putL la)).toList == (bytesOf (putL la)).toList)) || (getE lb w != getE lb w)) || (getE lb w != getE lb w)) = false := by simp
  rw [hf, br_false]
  have ro2' := ((ro2.ext e5).ext e6).ext e7
  have ro3' := (ro3.ext e6).ext e7
  have ro4' := ro4.ext e7
  have hlen : ∀ l ∈ getL lb w, l.length < 1099511627776 := fun l hl => by have := hrows.1 l hl; omega
  refine SameRows_ok ro2'.rows ro4'.rows (by omega) hlen ?_
  rw [decide_eq_true rfl]
  refine ⟨e7, ?_⟩
  rw [show (!true) = false from rfl, br_false]
  refine SameRows_ok ro3'.rows ro4'.rows (by omega) hlen ?_
  rw [decide_eq_true rfl]
  refine ⟨e7, ?_⟩
  rw [show (!true) = false from rfl, br_false]
  refine rowRoom_ok ⟨e7, refRoom_ok ⟨e7, ?_⟩⟩
  rw [show (roomL w != roomL w) = false by simp, br_false]
  have e37 : Ext H3 H7 := e36.trans e7
  have s23 : H2.size ≤ H3.size := e3.size
  have s34 : H3.size ≤ H4.size := e4.size
  have s45 : H4.size ≤ H5.size := e5.size
  have blk2 : ∀ r ∈ rs2, ∀ b, ownB r b → H3.size ≤ b ∧ b < H4.size := ro2.block.2
  have e07 : Ext H H7 := e06.trans e7
  refine loop_upto (getL lb w).length (fun k z H' => z = (k : Int) ∧ Mod (fun b => ∃ (j : Nat) (r : Sl), j < k ∧ rs2[j]? = some r ∧ ownB r b) H7 H') ⟨rfl, Mod.refl _ _⟩ ?_
  rintro k z H12 next hk ⟨rfl, m12⟩ hnext
  have hn2 := ro2'.n
  refine br_mk (fun h2 => ?_) (fun h2 => ?_)
  · have hlt : k < (getL lb w).length := by simp at h2; omega
    have hkr : k < rs2.length := by rw [ro2'.len]; exact hlt
    obtain ⟨ad, hadr, hcell⟩ := ro2'.out.reads.at (i := k) (by simpa using hkr)
    have hrow := ro2'.row k _ _ (List.getElem?_eq_getElem hkr) (List.getElem?_eq_getElem hlt)
    refine optK_mk ad hadr ⟨by dsimp only; omega, rs2[k], ?_, ?_⟩
    · simp only [Int.toNat_natCast, Nat.mul_one]
      refine m12.cell (by simpa using hcell) ?_
      rintro ⟨j, r, hj, hr, ob⟩
      rw [add_block] at ob
      obtain ⟨l, hl⟩ := ro2'.rowAt (List.mem_of_getElem? hr)
      exact hl.apart ro2'.out (by decide) _ ob ⟨ad, hadr, rfl⟩
    · have hrow12 := hrow.mod m12 (by
        rintro b hb ⟨j, r, hj, hr, ob⟩
        exact ro2'.apart k j _ _ (by omega) (List.getElem?_eq_getElem hkr) hr b hb ob)
      refine Spoil_ok hrow12 ?_ ?_ fun H13 m13 => ?_
      · have := hrow12.ints.len; have := hrows.1 _ (List.getElem_mem hlt); omega
      · exact Nat.le_trans e37.size m12.size
      · refine hnext hlt _ _ ⟨by rw [succ64 k (by omega)], ?_⟩
        refine (m12.mono ?_).trans (m13.mono ?_)
        · rintro b _ ⟨j, r, hj, hr, ob⟩; exact ⟨j, r, by omega, hr, ob⟩
        · intro b _ ob; exact ⟨k, _, by omega, List.getElem?_eq_getElem hkr, ob⟩
  · have hF : ∀ b, (∃ (j : Nat) (r : Sl), j < k ∧ rs2[j]? = some r ∧ ownB r b) → H3.size ≤ b ∧ b < H4.size := by
      rintro b ⟨j, r, _, hr, ob⟩; exact blk2 r (List.mem_of_getElem? hr) b ob
    have m12' : Mod (fun b => H2.size ≤ b ∧ b < H4.size) H7 H12 := m12.mono (fun b _ hb => by have := hF b hb; exact ⟨by omega, by omega⟩)
    have q7 := (qo.ext e37)
    have q12 := q7.mod m12 (fun b hb hb' => by have h5 := hF b hb'; have h6 := (qo.block b hb).2; omega)
    refine loop_upto q.n (fun k z H' => z = (k : Int) ∧ (∃ ys, Owns H' H2.size ty_uint8 1 q ys) ∧ Mod (ownB q) H12 H') ⟨rfl, ⟨_, q12⟩, Mod.refl _ _⟩ ?_
    rintro j z H14 next2 hj ⟨rfl, ⟨ys, q14⟩, m14⟩ hnext2
    have hqn := q12.ints.len
    refine br_mk (fun h3 => ?_) (fun h3 => ?_)
    · have hlt : j < q.n := by simp at h3; omega
      refine q14.st (by omega) (by omega) rfl fun H15 o15 m15 _ => ?_
      exact hnext2 hlt _ _ ⟨by rw [succ64 j (by omega)], ⟨_, o15⟩, m14.trans m15⟩
    · have mAll : Mod (fun b => H2.size ≤ b ∧ b < H4.size) H7 H14 := m12'.trans (m14.mono (fun b _ hb => by have := qo.block b hb; omega))
      have e14 : Ext H H14 := (e07.mod (F := fun b => H2.size ≤ b ∧ b < H4.size).trans mAll).ext (fun b hb => by have := (e1.trans e2).size; omega)
      have r3f := ro3'.mod mAll (fun b hb hb' => by have := ro3.block.1 b hb; omega) (fun r hr b hb hb' => by have := ro3.block.2 r hr b hb; omega)
      have r4f := ro4'.mod mAll (fun b hb hb' => by have := ro4.block.1 b hb; omega) (fun r hr b hb hb' => by have := ro4.block.2 r hr b hb; omega)
      refine SameRows_ok r3f.rows r4f.rows (by omega) hlen ?_
      rw [decide_eq_true rfl, br_true]
      have xf : LentR H14 H.size x la := (x1.ext ((e2.trans e3).trans ((e4.trans e5).trans (e6.trans e7)))).mod mAll (fun b hb hb' => by
        have := (x1.block b hb).2; have := e2.size; omega)
      refine Kept_ok xf (ha.ext e14) (by omega) ?_
      rw [br_true]
      have sf := (so'.ext (e3.trans ((e4.trans e5).trans (e6.trans e7)))).mod mAll (fun b hb hb' => by
        have := (so'.block b hb).2; omega)
      refine b2s_mk sf.ints hbb ?_
      refine b2s_mk (hb.ext e14) hbb ?_
      rw [bytesOf_eq hbb hbb, decide_eq_true rfl, br_true]
      exact works_ok fun H' e => hK H' (e14.trans e)

end Go.Proofs.Ytndnjggcpdkbiaa
