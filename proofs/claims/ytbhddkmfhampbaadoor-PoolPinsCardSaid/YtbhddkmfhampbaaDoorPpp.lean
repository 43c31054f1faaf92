/-
  PoolPins: the walk.
-/
import Derived.Test.YtbhddkmfhampbaaDoorPpw
import Derived.Test.YtbhddkmfhampbaaDoorFpk
namespace Go.Proofs.YtbhddkmfhampbaaDoor
open Go.MapKept

theorem pins_of {p : Pl} {n : ByteArray} {m N : Nat} {nx : Int} {L : Nat} {v : Nat → List Int → Prop} {gone : Nat → Prop} (h : HeldP p n m N nx L v gone) (hv : ∀ j l, v j l → l ≠ []) : p.pinned = L := by
  unfold Pl.pinned
  rw [List.filter_eq_self.2 (fun f hf => ?_), h.size]
  have := hv _ _ (h.pins f hf)
  cases hq : f.pins with
  | nil => exact absurd hq this
  | cons a l => rfl

theorem PoolPins_ok {frames : Int} {H : Heap} {K : Bool → Heap → Prop} (hg : Gl H) (hK : ∀ B, Ext H B → K true B) : fathomlaw03_PoolPins.sp frames H K := by
  refine fathomlaw03_PoolPins.of ?_
  unfold fathomlaw03_PoolPins.vc
  refine PickN_ok (by decide) ?_
  rw [if_neg (by decide)]
  obtain ⟨m, hm8, hm27, em⟩ : ∃ m : Nat, 8 ≤ m ∧ m ≤ 27 ∧ IntKind.i64.wrap ((8 : Int) + frames.emod 20) = (m : Int) := by
    have h1 := Int.emod_nonneg frames (show (20 : Int) ≠ 0 by decide)
    have h2 := Int.emod_lt_of_pos frames (show (0 : Int) < 20 by decide)
    have e : frames % 20 = frames.emod 20 := rfl
    refine ⟨(8 + frames.emod 20).toNat, by omega, by omega, ?_⟩
    rw [wrap64 (by omega) (by omega)]; omega
  simp only [em]
  obtain ⟨c1, c2, c3, c4⟩ := create_live (q := 100) (by decide) (by decide) nmF_named
  refine New_ok (by decide) fun F1 d H1 a1 e1 f1 => ?_
  refine Create_ok (n := nmF) a1 fun F2 H2 a2 S2 => ?_
  have e2 : Ext H H2 := ⟨Nat.le_trans e1.size S2.mod.size, fun b hb _ => (S2.mod.same b (Nat.lt_of_lt_of_le hb e1.size) fun q => by have := f1 b q; omega).trans (e1.same b hb id)⟩
  have f2 : ∀ b, F2 b → H.size ≤ b := fun b hb => by
    rcases S2.own b hb with q | q
    · exact f1 b q
    · exact Nat.le_trans e1.size q
  refine TP.new (m := m) hg e2 a2 f2 hm8 (by omega) fun p H3 t3 => ?_
  refine br_f rfl ?_
  have h0 : HeldP (pl0 ((dk0 100).create nmF).1 m) nmF m 0 (((0 : Nat) : Int) + 1) 0 v0 (fun _ => False) :=
    ⟨⟨[], pl0_told c1⟩, rfl, rfl, rfl, by intro f hf; simp [pl0] at hf, by intro j hj; omega⟩
  refine loop_upto m (fun i z A => z = (i : Int) ∧ ∃ s, TP H A p d s ∧ HeldP s nmF m i ((i : Int) + 1) i v0 (fun _ => False) ∧ s.d.logs ≤ 2 * i) ⟨rfl, _, t3, h0, by show Dk.logs ((dk0 100).create nmF).1 ≤ _; rw [c4]; omega⟩ ?_
  rintro i _ A next hi ⟨rfl, s, t, hs, hl⟩ hnext
  refine br_mk (fun hc => ?_) (fun hc => ?_)
  · have hlt : i < m := by simpa using hc
    obtain ⟨q1, q2⟩ := hs.step t.wf hlt hm27
    obtain ⟨pg, ht⟩ := hs.told
    refine TP.fresh (n := nmF) t hg (by decide) (by omega) (by rw [hs.next]; omega) ht.fit q1 fun B tB => ?_
    have lB := s.fresh_logs nmF
    refine br_f (by simp) ?_
    rw [wrap8]
    refine newC_rowT fun C zC rC eC => ?_
    have tC := tB.ext eC
    have hb : Byts C (Sl.mk (some ⟨B.size, 0, none⟩) 1 1) [UInt8.ofNat i] := RowB.byts (l := [UInt8.ofNat i]) (o := 0) rC (by simp)
    obtain ⟨w1, w2⟩ := q2 tC.wf
    refine TP.put (kd := UInt8.ofNat i) tC hg hb w1 fun E tE => ?_
    refine br_f rfl ?_
    refine hnext hlt _ _ ⟨succ64 i (by omega), _, tE, w2, ?_⟩
    rw [Pl.set_d]; omega
  · have hge : i = m := by simp at hc; omega
    subst hge
    -- all frames are held
    obtain ⟨pg, ht⟩ := hs.told
    obtain ⟨full1, full2⟩ := hs.full v0_ne
    have efr := ht.fresh_full full1 full2
    obtain ⟨D, hD, _⟩ := t.disk hg
    refine Ops_ok hD ?_
    refine TP.fresh (n := nmF) (r := (0, 0, 31)) t hg (by decide) (by omega) (by rw [hs.next]; omega) ht.fit (congrArg Prod.snd efr) fun B tB => ?_
    rw [efr] at tB
    have tB : TP H B p d s := tB
    obtain ⟨D2, hD2, _⟩ := tB.disk hg
    refine Len_ok (n := nmF) hD2 ?_
    rw [ht.disk.len, ht.len]
    refine br_f (by simp) ?_
    refine Ops_ok hD2 ?_
    refine br_f (by simp) ?_
    obtain ⟨F, pa, _⟩ := tB.go
    refine Resident_ok pa ?_
    rw [hs.size]
    refine br_f (by simp) ?_
    refine Pinned_ok pa (by rw [hs.next]; omega) fun C eC => ?_
    rw [pins_of hs v0_ne]
    refine br_f (by simp) ?_
    have tC := tB.ext eC
    obtain ⟨u1, u2⟩ := hs.unpin3 tC.wf hm8
    refine TP.unpin tC hg (by rw [hs.next]; omega) u1 fun C2 tC2 => ?_
    refine br_f rfl ?_
    obtain ⟨sA, hsA⟩ : ∃ sA, sA = (s.unpin 3).1 := ⟨_, rfl⟩
    have lA : sA.d.logs ≤ 2 * i := by rw [hsA, Pl.unpin_d]; exact hl
    rw [← hsA] at u2 tC2
    obtain ⟨w1, w2⟩ := u2.freshA tC2.wf hm8 hm27
    obtain ⟨pgA, htA⟩ := u2.told
    refine TP.fresh (n := nmF) tC2 hg (by decide) (by omega) (by rw [u2.next]; omega) htA.fit w1 fun C3 tC3 => ?_
    have lB := sA.fresh_logs nmF
    obtain ⟨sB, hsB⟩ : ∃ sB, sB = (sA.fresh nmF).1 := ⟨_, rfl⟩
    rw [← hsB] at w2 tC3 lB
    have epin := w2.pinB hm8
    refine TP.pin (n := nmF) (k := 2) (r := (0, 31)) tC3 hg (by decide) (by decide) (by decide) (by omega) (by rw [w2.next]; omega) (congrArg Prod.snd epin) fun C4 tC4 => ?_
    rw [epin] at tC4
    have tC4 : TP H C4 p d sB := tC4
    refine br_f (by simp) ?_
    obtain ⟨x1, x2⟩ := w2.unpinB tC4.wf hm8
    refine TP.unpin tC4 hg (by rw [w2.next]; omega) x1 fun C5 tC5 => ?_
    refine br_f rfl ?_
    obtain ⟨sC, hsC⟩ : ∃ sC, sC = (sB.unpin ((i : Int) + 1)).1 := ⟨_, rfl⟩
    have lC : sC.d.logs ≤ 2 * i + 2 := by rw [hsC, Pl.unpin_d]; omega
    rw [← hsC] at x2 tC5
    obtain ⟨y1, y2⟩ := x2.pinC tC5.wf hm8 hm27
    refine TP.pin (n := nmF) (k := 2) tC5 hg (by decide) (by decide) (by decide) (by omega) (by rw [x2.next]; omega) y1 fun C6 tC6 => ?_
    obtain ⟨sD, hsD⟩ : ∃ sD, sD = (sC.pin nmF 2).1 := ⟨_, rfl⟩
    rw [← hsD] at y2 tC6
    obtain ⟨g1, g2, g3⟩ := y2.getD tC6.wf hm8 hm27
    refine TP.get tC6 g1 fun sl C7 o7 tC7 e7 => ?_
    refine loop_upto i (fun k z A => z = (k : Int) + 1 ∧ TP H A p d sD ∧ SlE EB ty_uint8 A sl [2]) ⟨rfl, tC7, o7⟩ ?_
    rintro k _ A2 next2 hk2 ⟨rfl, tA, oA⟩ hnext2
    refine br_mk (fun hc2 => ?_) (fun hc2 => ?_)
    · have hlt2 : k < i := by simp at hc2; omega
      have ew : IntKind.i64.wrap ((k : Int) + 1 + 1) = ((k + 1 : Nat) : Int) + 1 := by rw [wrap64 (by omega) (by omega)]; omega
      by_cases hk2' : k = 2
      · subst hk2'
        refine TP.get (a := (sD.get 3).1) (b := (sD.get 3).2.1) (e := (sD.get 3).2.2) tA rfl fun sl2 C8 o8 tC8 e8 => ?_
        refine br_f (by simp) ?_
        exact hnext2 hlt2 _ _ ⟨ew, tC8, oA.ext e8⟩
      · refine TP.get tA (g2 k hlt2 hk2') fun sl2 C8 o8 tC8 e8 => ?_
        have hn8 := o8.n (by decide)
        have ek : IntKind.i64.wrap ((k : Int) + 1 - 1) = (k : Int) := by rw [wrap64 (by omega) (by omega)]; omega
        refine br_f ?_ (hnext2 hlt2 _ _ ⟨ew, tC8, oA.ext e8⟩)
        rw [ek, wrap8, hn8]
        simp
    · have hge2 : k = i := by simp at hc2; omega
      have hn2 := oA.n (by decide)
      refine br_t (by rw [hn2]; rfl) ?_
      refine byte_of (SlB_byts oA) (i := 0) (by decide) rfl fun ad _ => ?_
      refine br_t (by decide) ?_
      refine TP.dropF (n := nmF) (e := 31) tA hg (congrArg Prod.snd g3) fun C9 tC9 => ?_
      refine br_t rfl ?_
      exact pworks_ok (tC9.gl hg) fun B eB => hK B (tC9.1.trans eB)

end Go.Proofs.YtbhddkmfhampbaaDoor
