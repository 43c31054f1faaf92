/-
  Rows: the closed statement's call.
-/
import Derived.Test.YtndnjggcpdkbiaaRwg
import Derived.Test.YtndnjggcpdkbiaaRwk
import Derived.Test.YtndnjggcpdkbiaaRwi
namespace Go.Proofs.Ytndnjggcpdkbiaa

/-- Slices that read as these lists. -/
def Rws (k : IntKind) (H : Heap) : List Sl → List (List Int) → Prop
  | [], [] => True
  | r :: rs, l :: ls => (Ints k H r l ∧ r.n ≤ r.c) ∧ Rws k H rs ls
  | _, _ => False

/-- A table of such slices. -/
def TabAt (k : IntKind) (H : Heap) (ad : Addr) (ls : List (List Int)) : Prop := ∀ i (hi : i < ls.length), ∃ rr, hCell H (ad.add i) = some (Sl.v rr) ∧ Ints k H rr ls[i] ∧ rr.n ≤ rr.c

theorem TabAt.ext {k : IntKind} {H H' : Heap} {ad : Addr} {ls : List (List Int)} (h : TabAt k H ad ls) (e : Ext H H') : TabAt k H' ad ls := fun i hi => by
  obtain ⟨rr, h1, h2, h3⟩ := h i hi
  exact ⟨rr, Mod.cell e h1 id, h2.ext e, h3⟩

theorem Rws.at {k : IntKind} {H : Heap} : ∀ {rs : List Sl} {ls : List (List Int)}, Rws k H rs ls → ∀ i (hi : i < ls.length), ∃ rr, rs[i]? = some rr ∧ Ints k H rr ls[i] ∧ rr.n ≤ rr.c
  | [], [], _, i, hi => by simp at hi
  | r :: rs, l :: ls, h, 0, _ => ⟨r, rfl, h.1.1, h.1.2⟩
  | r :: rs, l :: ls, h, i + 1, hi => by
    obtain ⟨rr, h1, h2, h3⟩ := h.2.at i (by simpa using hi)
    exact ⟨rr, by simpa using h1, by simpa using h2, h3⟩
  | [], _ :: _, h, _, _ => h.elim
  | _ :: _, [], h, _, _ => h.elim

theorem newC_tab {k : IntKind} {H : Heap} {t : TypeId} (rs : List Sl) (ls : List (List Int)) (h : Rws k H rs ls) {K : Addr → Heap → Prop} (hK : ∀ p H', TabAt k H' p ls → Ext H H' → K p H') :
    newC H (rs.map Sl.v).toArray t K := by
  have e : Ext H (H.push (.cells (rs.map Sl.v).toArray t)) := Mod.push _ _ _
  refine hK _ _ (fun i hi => ?_) e
  obtain ⟨rr, h1, h2, h3⟩ := h.at i hi
  refine ⟨rr, ?_, h2.ext e, h3⟩
  rw [add_lit, Nat.zero_add]
  exact hCell_of (c := (rs.map Sl.v).toArray) (t := t) (fz := (0, 0)) (by simp) (by simp [h1])

theorem TabAt.ld {k : IntKind} {H : Heap} {ad : Addr} {ls : List (List Int)} (h : TabAt k H ad ls) {i : Nat} (hi : i < ls.length) {K : Sl → Prop} (hK : ∀ r, Ints k H r (ls[i]'hi) → r.n ≤ r.c → K r) : Go.Proofs.Ytndnjggcpdkbiaa.ld cSl H (ad.add ((i : Int).toNat * 1)) K := by
  obtain ⟨rr, h1, h2, h3⟩ := h i hi
  refine ⟨rr, ?_, hK rr h2 h3⟩
  simp only [Int.toNat_natCast, Nat.mul_one]
  exact h1

def bigL : List (List Int) := [[], [0], [1], [1, 0], [1, 2], [2], [18446744073709551615], [18446744073709551615, 0], [0, 18446744073709551615], [9223372036854775808], [9223372036854775807], [255], [256]]
def colsL : List (List Int) := [[], [0], [1], [-1], [0, 0], [1, 0], [2], [0, 2]]
def numsL : List Int := [0, 1, 7, 8, 9, 16, 24, 128, 136, 256]

theorem numsL_range (j : Nat) : 0 ≤ numsL.getD j 0 ∧ numsL.getD j 0 ≤ 256 := by
  rcases Nat.lt_or_ge j 10 with h | h
  · have : ∀ j : Fin 10, 0 ≤ numsL.getD j.val 0 ∧ numsL.getD j.val 0 ≤ 256 := by decide
    exact this ⟨j, h⟩
  · simp [List.getD, List.getElem?_eq_none (show numsL.length ≤ j from h)]

theorem bigL_wf (i : Nat) (hi : i < bigL.length) : ∀ n ∈ bigL[i], (Lit.int .u64 n).wf = true := by
  have : ∀ l ∈ bigL, ∀ n ∈ l, (Lit.int .u64 n).wf = true := by decide
  exact this _ (List.getElem_mem hi)

theorem room1 : roomL 1 = 63 := by decide +kernel
theorem room16 : roomL 16 = 3 := by decide +kernel
theorem room0 : roomL 0 = 504 := by decide +kernel
theorem room17 : roomL 17 = 0 := by decide +kernel

theorem u8_wrap_range (x : Int) : 0 ≤ IntKind.u8.wrap x ∧ IntKind.u8.wrap x < 256 := by
  rw [IntKind.wrap_u8]; omega

set_option maxHeartbeats 2000000 in
theorem RowKnown_ok {H : Heap} {K : Bool → Heap → Prop} (hK : ∀ H', Ext H H' → K true H') : fathomlaw06_RowKnown.sp H K := by
  refine fathomlaw06_RowKnown.of ?_
  unfold fathomlaw06_RowKnown.vc
  refine loop_upto 22 (fun k z H' => z = (k : Int) - 2 ∧ Ext H H') ⟨rfl, Mod.refl _ _⟩ ?_
  rintro k z H1 next hk ⟨rfl, e1⟩ hnext
  refine br_mk (fun h => ?_) (fun h => ?_)
  · have hk22 : k < 22 := by simp at h; omega
    refine newC_ints (k := .i64) numsL fun p H2 _ _ ip e2 => ?_
    refine loop_upto 10 (fun j z H' => z = (j : Int) ∧ Ext H2 H') ⟨rfl, Mod.refl _ _⟩ ?_
    rintro j z H3 next1 hj ⟨rfl, e3⟩ hnext1
    refine br_mk (fun h2 => ?_) (fun h2 => ?_)
    · have hj10 : j < 10 := by simp at h2; omega
      refine ⟨by omega, ?_⟩
      obtain ⟨ad, ea, hc⟩ := ((ip 10).ext e3).at (i := j) (by simpa [numsL] using hj10)
      cases ea
      refine ⟨numsL.getD j 0, ?_, ?_⟩
      · simp only [Int.toNat_natCast, Nat.mul_one]
        rw [hc]; simp [List.getD, List.getElem?_eq_getElem (show j < numsL.length from hj10)]
      have hx := numsL_range j
      refine elU8.make (base := H3.size) hx.1 (Int.le_refl _) (by omega) (by omega) (Nat.le_refl _) ?_
      intro sl H4 n4 o4 e4 _ _
      have o4' : Owns H4 H3.size ty_uint8 1 sl ((List.replicate (numsL.getD j 0).toNat (0 : Int)).map (Value.int .u8)) := by simpa using o4
      refine newC_ints (k := .u64) [1, 2, 18446744073709551615] fun p1 H5 _ _ i5 e5 => ?_
      refine RowBytes_ok (i5 3) (o4'.ext e5).ints (fun x hx => by rw [List.eq_of_mem_replicate hx]; decide) fun H6 e6 => ?_
      rw [show (!true) = false from rfl, br_false]
      refine loop_upto (numsL.getD j 0).toNat (fun t z H' => z = (t : Int) ∧ (∃ ys : List Int, Owns H' H3.size ty_uint8 1 sl (ys.map (Value.int .u8)) ∧ ∀ y ∈ ys, 0 ≤ y ∧ y < 256) ∧ Mod (ownB sl) H6 H') ⟨rfl, ⟨_, (o4'.ext e5).ext e6, fun x hx => by rw [List.eq_of_mem_replicate hx]; decide⟩, Mod.refl _ _⟩ ?_
      rintro t z H7 next2 ht ⟨rfl, ⟨ys, o7, hys⟩, m7⟩ hnext2
      refine br_mk (fun h3 => ?_) (fun h3 => ?_)
      · have htl : t < (numsL.getD j 0).toNat := by have h3' := of_decide_eq_true h3; omega
        refine o7.st (by omega) (by omega) rfl fun H8 o8 m8 _ => ?_
        refine hnext2 htl _ _ ⟨by rw [succ64 t (by omega)], ⟨ys.set t (IntKind.u8.wrap (IntKind.i64.wrap ((t : Int) + 1))), ?_, ?_⟩, m7.trans m8⟩
        · rw [List.map_set]; simpa using o8
        · intro y hy
          rcases List.mem_or_eq_of_mem_set hy with q | q
          · exact hys y q
          · rw [q]; exact u8_wrap_range _
      · have e27 : Ext H2 H7 := ((Ext.mod (F := ownB sl) (e3.trans ((e4.trans e5).trans e6))).trans m7).ext (fun b hb => by have := (o4.block b hb).1; have := e3.size; omega)
        refine RowBytes_ok (la := []) ⟨rfl, Reads.nil _ _⟩ o7.ints hys fun H9 e9 => ?_
        rw [show (!true) = false from rfl, br_false]
        exact hnext1 hj10 _ _ ⟨by rw [succ64 j (by omega)], e27.trans e9⟩
    · refine hnext hk22 _ _ ⟨by rw [wrap64 (by omega) (by omega)]; omega, (e1.trans e2).trans e3⟩
  · refine newC_ints (k := .u64) [0] fun p2 H10 _ _ i2 e10 => ?_
    refine newC_ints (k := .u64) [1] fun p3 H11 _ _ i3 e11 => ?_
    refine newC_ints (k := .u64) [1, 0] fun p4 H12 _ _ i4 e12 => ?_
    refine newC_ints (k := .u64) [1, 2] fun p5 H13 _ _ i5 e13 => ?_
    refine newC_ints (k := .u64) [2] fun p6 H14 _ _ i6 e14 => ?_
    refine newC_ints (k := .u64) [18446744073709551615] fun p7 H15 _ _ i7 e15 => ?_
    refine newC_ints (k := .u64) [18446744073709551615, 0] fun p8 H16 _ _ i8 e16 => ?_
    refine newC_ints (k := .u64) [0, 18446744073709551615] fun p9 H17 _ _ i9 e17 => ?_
    refine newC_ints (k := .u64) [9223372036854775808] fun p10 H18 _ _ i10 e18 => ?_
    refine newC_ints (k := .u64) [9223372036854775807] fun p11 H19 _ _ i11 e19 => ?_
    refine newC_ints (k := .u64) [255] fun p12 H20 _ _ i12 e20 => ?_
    refine newC_ints (k := .u64) [256] fun p13 H21 _ _ i13 e21 => ?_
    have f20 := e21
    have f19 := e20.trans f20
    have f18 := e19.trans f19
    have f17 := e18.trans f18
    have f16 := e17.trans f17
    have f15 := e16.trans f16
    have f14 := e15.trans f15
    have f13 := e14.trans f14
    have f12 := e13.trans f13
    have f11 := e12.trans f12
    have f10 := e11.trans f11
    refine newC_tab (k := .u64) [Sl.mk none 0 0, Sl.mk (some p2) 1 1, Sl.mk (some p3) 1 1, Sl.mk (some p4) 2 2, Sl.mk (some p5) 2 2, Sl.mk (some p6) 1 1, Sl.mk (some p7) 1 1, Sl.mk (some p8) 2 2, Sl.mk (some p9) 2 2, Sl.mk (some p10) 1 1, Sl.mk (some p11) 1 1, Sl.mk (some p12) 1 1, Sl.mk (some p13) 1 1] bigL
      ⟨⟨⟨rfl, Reads.nil _ _⟩, Nat.le_refl _⟩, ⟨(i2 1).ext f10, Nat.le_refl _⟩, ⟨(i3 1).ext f11, Nat.le_refl _⟩, ⟨(i4 2).ext f12, Nat.le_refl _⟩, ⟨(i5 2).ext f13, Nat.le_refl _⟩, ⟨(i6 1).ext f14, Nat.le_refl _⟩, ⟨(i7 1).ext f15, Nat.le_refl _⟩,
        ⟨(i8 2).ext f16, Nat.le_refl _⟩, ⟨(i9 2).ext f17, Nat.le_refl _⟩, ⟨(i10 1).ext f18, Nat.le_refl _⟩, ⟨(i11 1).ext f19, Nat.le_refl _⟩, ⟨(i12 1).ext f20, Nat.le_refl _⟩, ⟨i13 1, Nat.le_refl _⟩, trivial⟩ fun pt H22 tab e22 => ?_
    have e022 : Ext H H22 := ((e1.trans e10).trans f10).trans e22
    have hbig : bigL.length = 13 := rfl
    have hcols : colsL.length = 8 := rfl
    refine loop_upto 13 (fun i z H' => z = (i : Int) ∧ Ext H22 H') ⟨rfl, Mod.refl _ _⟩ ?_
    rintro i z H23 next3 hi ⟨rfl, e23⟩ hnext3
    refine br_mk (fun h3 => ?_) (fun h3 => ?_)
    · have hi13 : i < 13 := by simp at h3; omega
      refine loop_upto 13 (fun j z H' => z = (j : Int) ∧ Ext H22 H') ⟨rfl, e23⟩ ?_
      rintro j z H24 next4 hj ⟨rfl, e24⟩ hnext4
      refine br_mk (fun h4 => ?_) (fun h4 => ?_)
      · have hj13 : j < 13 := by simp at h4; omega
        refine ⟨by omega, (tab.ext e24).ld (by omega) fun x1 ix1 cx1 => ⟨by omega, (tab.ext e24).ld (by omega) fun x2 ix2 _ => ?_⟩⟩
        refine RowOrder_ok ix1 ix2 cx1 fun H25 e25 => ?_
        rw [show (!true) = false from rfl, br_false]
        exact hnext4 hj13 _ _ ⟨by rw [succ64 j (by omega)], e24.trans e25⟩
      · refine newC_ints (k := .i64) [0] fun q1 H26 _ _ j1 g26 => ?_
        refine newC_ints (k := .i64) [1] fun q2 H27 _ _ j2 g27 => ?_
        refine newC_ints (k := .i64) [-1] fun q3 H28 _ _ j3 g28 => ?_
        refine newC_ints (k := .i64) [0, 0] fun q4 H29 _ _ j4 g29 => ?_
        refine newC_ints (k := .i64) [1, 0] fun q5 H30 _ _ j5 g30 => ?_
        refine newC_ints (k := .i64) [2] fun q6 H31 _ _ j6 g31 => ?_
        refine newC_ints (k := .i64) [0, 2] fun q7 H32 _ _ j7 g32 => ?_
        have k31 := g32
        have k30 := g31.trans k31
        have k29 := g30.trans k30
        have k28 := g29.trans k29
        have k27 := g28.trans k28
        have k26 := g27.trans k27
        refine newC_tab (k := .i64) [Sl.mk none 0 0, Sl.mk (some q1) 1 1, Sl.mk (some q2) 1 1, Sl.mk (some q3) 1 1, Sl.mk (some q4) 2 2, Sl.mk (some q5) 2 2, Sl.mk (some q6) 1 1, Sl.mk (some q7) 2 2] colsL
          ⟨⟨⟨rfl, Reads.nil _ _⟩, Nat.le_refl _⟩, ⟨(j1 1).ext k26, Nat.le_refl _⟩, ⟨(j2 1).ext k27, Nat.le_refl _⟩, ⟨(j3 1).ext k28, Nat.le_refl _⟩, ⟨(j4 2).ext k29, Nat.le_refl _⟩, ⟨(j5 2).ext k30, Nat.le_refl _⟩, ⟨(j6 1).ext k31, Nat.le_refl _⟩, ⟨j7 2, Nat.le_refl _⟩, trivial⟩ fun pc H33 tabc e33 => ?_
        have e2233 : Ext H22 H33 := ((e24.trans g26).trans k26).trans e33
        refine loop_upto 8 (fun c z H' => z = (c : Int) ∧ Ext H33 H') ⟨rfl, Mod.refl _ _⟩ ?_
        rintro c z H34 next5 hc ⟨rfl, e34⟩ hnext5
        have t34 := tab.ext (e2233.trans e34)
        refine br_mk (fun h5 => ?_) (fun h5 => ?_)
        · have hc8 : c < 8 := by simp at h5; omega
          refine ⟨by omega, (tabc.ext e34).ld (by omega) fun x3 ix3 _ => ⟨by omega, t34.ld (by omega) fun x4 ix4 _ => ?_⟩⟩
          refine RowTurns_ok ix4 ix3 fun H35 e35 => ?_
          rw [show (!true) = false from rfl, br_false]
          exact hnext5 hc8 _ _ ⟨by rw [succ64 c (by omega)], e34.trans e35⟩
        · refine RowBack_ok (ls := bigL) rfl (fun i hi => ?_) (by omega) fun H36 e36 => ?_
          · obtain ⟨rr, w1, w2, w3⟩ := t34 i hi
            exact ⟨pt, rr, rfl, w1, w2, w3, bigL_wf i hi⟩
          rw [show (!true) = false from rfl, br_false]
          refine ⟨by omega, (t34.ext e36).ld (by omega) fun x5 ix5 _ => ?_⟩
          refine RowAround_ok ix5 (by omega) fun H37 e37 => ?_
          rw [show (!true) = false from rfl, br_false]
          exact hnext3 hi13 _ _ ⟨by rw [succ64 i (by omega)], ((e2233.trans e34).trans e36).trans e37⟩
    · refine rowRoom_ok ?_
      rw [room1]
      refine br_mk (fun _ => ?_) (fun h => absurd h (by decide))
      refine rowRoom_ok ?_
      rw [room16]
      refine br_mk (fun _ => ?_) (fun h => absurd h (by decide))
      refine rowRoom_ok ?_
      rw [room0]
      refine br_mk (fun _ => ?_) (fun h => absurd h (by decide))
      refine rowRoom_ok ?_
      rw [room17]
      refine br_mk (fun _ => ?_) (fun h => absurd h (by decide))
      exact works_ok fun H' e => hK H' ((e022.trans e23).trans e)

end Go.Proofs.Ytndnjggcpdkbiaa
