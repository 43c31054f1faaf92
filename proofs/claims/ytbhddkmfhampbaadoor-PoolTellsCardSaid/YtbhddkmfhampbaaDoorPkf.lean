/-
  The pool: the calls on pages and handles.
-/
import Derived.Test.YtbhddkmfhampbaaDoorPke
import Derived.Test.YtbhddkmfhampbaaDoorPln
namespace Go.Proofs.YtbhddkmfhampbaaDoor
open Go.MapKept

theorem PoolAt.ext {F : Nat → Prop} {H H' : Heap} {p dp : Nat} {s : Pl} (h : PoolAt F H p dp s) (e : Ext H H') : PoolAt F H' p dp s := h.keep fun b _ hl => e.same b hl id
/-- What is laid ahead of a step goes with it. -/
theorem Step.ahead {F G : Nat → Prop} {A B C : Heap} (e : Ext A B) (h : Step F G B C) : Step F G A C := (Step.ext e).trans h
theorem zc_spot : (zc Tryd.prog ty_pool_spot).size = 2 := by kernel_rfl

theorem Pin_ok {F : Nat → Prop} {H : Heap} {p dp : Nat} {s : Pl} {n : ByteArray} {k : Int} {K : (Int × Int) → Heap → Prop} (hg : Gl H) (h : PoolAt F H p dp s) (hn : n.size ≤ 9223372036854775807) (h0 : -9223372036854775808 ≤ k) (h1 : k ≤ 9223372036854775807)
    (hlogs : s.d.logs < 68719476736) (hnx : s.next < 9223372036854775807) (hK : ∀ F' H', PoolAt F' H' p dp (s.pin n k).1 → Step F F' H H' → K ((s.pin n k).2.1, (s.pin n k).2.2) H') : pool_Pool_Pin.sp (at0 p) n k H K := by
  have h00 := h
  obtain ⟨x, D, hd, hF⟩ := h
  refine pool_Pool_Pin.of ?_
  unfold pool_Pool_Pin.vc
  simp only [optK_eq]
  refine ready_pool hd.pool ?_
  unfold Pl.pin at hK
  refine br_mk (fun hw => ?_) (fun hw => ?_)
  · have hw' : s.wrong ≠ 0 := by simpa using hw
    rw [if_pos hw'] at hK
    exact hK F H h00 (.refl _ _)
  have hw' : ¬ s.wrong ≠ 0 := by simpa using hw
  rw [if_neg hw'] at hK
  refine newC_rowT fun H1 s1 r1 e1 => ?_
  have hs2 := zc_spot
  refine RowT.stAll r1 (cs := #[.string n, .int .i64 k]) (by kernel_rfl) hs2 (by intro v hv; simp at hv; rcases hv with rfl | rfl <;> rfl) fun H2 r2 m2 z2 => ?_
  have e2 : Ext H H2 := ⟨by have := e1.size; have := m2.size; omega, fun b hb _ => (m2.same b (by omega) (by omega)).trans (e1.same b hb id)⟩
  have hd2 := hd.ext e2
  have hg2 : Gl H2 := hg.mod e2 id
  refine hd2.pool.head.ld (c := cMap) (i := 2) (x := some x.mf) rfl ?_
  refine RowT.ldA (x := (n, k)) r2 rfl rfl ?_
  refine lookF_ok hd2.pool hn h0 h1 (fun i f g hi hz _ _ => ?_) (fun hi => ?_)
  · rw [hi] at hK
    have hfs : s.fs[i]? = some f := by rw [hd.pool.fs]; simp [PG.fs, hz]
    have hpl : f.pins.length ≤ s.pins := le_sum (fun f : Fr => f.pins.length) s.fs i f hfs
    have ht := hd.pool.wf.tick
    refine br_t rfl ?_
    refine pinAt_ok hg2 hd2 hz hnx (hd.pool.wf.pinAt hfs hnx) (by omega) fun x' H3 h3 S3 => ?_
    obtain ⟨F', q1, q2⟩ := h3.out (x := x) (D := D) (F := F) (H := H2) hF S3
    exact hK F' H3 q1 (q2.ahead e2)
  · rw [hi] at hK
    refine br_f rfl ?_
    refine RowT.ldA (x := (n, k)) r2 rfl rfl ?_
    refine load_ok hg2 hd2 hlogs (fun hno q x' D' H3 h3 S3 => ?_) (fun f hf g x' D' H3 h3 S3 hN hfp => ?_)
    · have hne := Pl.load_none hno
      obtain ⟨q', hq'⟩ : ∃ q', s.load n k = q' := ⟨_, rfl⟩
      obtain ⟨t, fo, e⟩ := q'
      rw [hq'] at hno hne h3 hK ⊢
      simp only at hno hne h3 hK ⊢
      subst hno
      simp only at hK
      refine br_t (by simpa using hne) ?_
      have hg3 : Gl H3 := hd2.gl hg2 S3.mod
      refine met_ok hg3 h3 fun H4 h4 S4 => ?_
      obtain ⟨F', q1, q2⟩ := h4.out (x := x) (D := D) (F := F) (H := H2) hF (S3.trans S4)
      exact hK F' H4 q1 (q2.ahead e2)
    · obtain ⟨a1, a2, a3, a4, a5, a6, a7, a8, a9⟩ := Pl.load_some hd.disk.wf hf
      obtain ⟨q', hq'⟩ : ∃ q', s.load n k = q' := ⟨_, rfl⟩
      obtain ⟨t, fo, e⟩ := q'
      rw [hq'] at hf a1 a2 hK
      simp only at hf a1 a2 hK
      subst hf
      simp only at hK
      rw [a1] at hK
      refine br_f rfl ?_
      have hg3 : Gl H3 := hd2.gl hg2 S3.mod
      have hrs := s.room_same
      have hrw := hd.pool.wf.roomed
      refine take_ok hg3 h3 hN (by rw [hrs.1]; exact hrw.2 a3) (by rw [hrs.2.1]; exact hnx) (by rw [a4, a5]; exact Pl.room_find hi) a6 a9 (by rw [a4]; exact hn) a7 a8 fun x4 H4 h4 S4 => ?_
      have S24 : Step (fun b => D b ∨ x.all p b) (fun b => D' b ∨ x4.all p b) H2 H4 := by
        refine ⟨S3.mod.trans' S4.mod fun b hb q => ?_, fun b hb => ?_⟩
        · rcases q with q | q
          · exact (S3.own b q).resolve_right (by omega)
          · have := hfp b q; omega
        · rcases S4.own b hb with q | q
          · rcases q with q | q
            · exact S3.own b q
            · exact .inr (hfp b q)
          · exact .inr (Nat.le_trans S3.mod.size q)
      obtain ⟨F', q1, q2⟩ := h4.out (x := x) (D := D) (F := F) (H := H2) hF S24
      exact hK F' H4 q1 (q2.ahead e2)

theorem Fresh_ok {F : Nat → Prop} {H : Heap} {p dp : Nat} {s : Pl} {n : ByteArray} {K : (Int × Int × Int) → Heap → Prop} (hg : Gl H) (h : PoolAt F H p dp s) (hn : n.size ≤ 9223372036854775807)
    (hlogs : s.d.logs < 68719476735) (hnx : s.next < 9223372036854775807) (hfit : s.Fit)
    (hK : ∀ F' H', PoolAt F' H' p dp (s.fresh n).1 → Step F F' H H' → K ((s.fresh n).2.1, (s.fresh n).2.2.1, (s.fresh n).2.2.2) H') : pool_Pool_Fresh.sp (at0 p) n H K := by
  have h00 := h
  obtain ⟨x, D, hd, hF⟩ := h
  refine pool_Pool_Fresh.of ?_
  unfold pool_Pool_Fresh.vc
  simp only [optK_eq]
  refine ready_pool hd.pool ?_
  unfold Pl.fresh at hK
  refine br_mk (fun hw => ?_) (fun hw => ?_)
  · have hw' : s.wrong ≠ 0 := by simpa using hw
    rw [if_pos hw'] at hK
    exact hK F H h00 (.refl _ _)
  have hw' : ¬ s.wrong ≠ 0 := by simpa using hw
  rw [if_neg hw'] at hK
  refine hd.pool.head.ld (c := cPtr) (i := 0) (x := at0 dp) rfl ?_
  refine Len_ok hd.disk ?_
  have fail : ∀ (e : Int) (x' : PG) (D' : Nat → Prop) (H1 : Heap) (s' : Pl), PoolD x' D' H1 p dp s' → Step (fun b => D b ∨ x.all p b) (fun b => D' b ∨ x'.all p b) H H1 → (∀ F' H', PoolAt F' H' p dp (s'.met e) → Step F F' H H' → K (0, 0, e) H') →
      pool_Pool_met.sp (at0 p) e H1 fun r H2 => K (0, 0, r) H2 := by
    intro e x' D' H1 s' h1 S1 hk
    refine met_ok (hd.gl hg S1.mod) h1 fun H2 h2 S2 => ?_
    obtain ⟨F', q1, q2⟩ := h2.out (x := x) (D := D) (F := F) (H := H) hF (S1.trans S2)
    exact hk F' H2 q1 q2
  refine br_mk (fun hz => ?_) (fun hz => ?_)
  · have hz' : (s.d.len n).2 = 0 := by simpa using hz
    rw [if_neg (by simpa using hz')] at hK
    refine room_ok hg hd (by omega) fun x1 D1 H1 h1 S1 => ?_
    have hg1 : Gl H1 := hd.gl hg S1.mod
    refine newC_rowT fun H2 s2 r2 e2 => ?_
    have h2 := h1.ext e2
    have S2 := S1.behind e2
    have hg2 : Gl H2 := hg1.mod e2 id
    refine br_mk (fun hr => ?_) (fun hr => ?_)
    · have hr' : s.room.2 = 0 := by simpa using hr
      rw [if_neg (by simpa using hr')] at hK
      have hA : FrAt H2 ⟨H1.size, Sl.mk none 0 0⟩ ⟨n, (s.d.len n).1, 0, [], false, [], 0⟩ := ⟨r2, SlE.nil _ _ _⟩
      have hfp : ∀ b, FrG.fp ⟨H1.size, Sl.mk none 0 0⟩ b → b = H1.size := by
        rintro b (e | ⟨ad, q, _⟩)
        · exact e
        · cases q
      have hoff1 : ∀ b, D1 b ∨ x1.all p b → b < H1.size := h1.lt
      have hlg : s.room.1.d.logs < 68719476736 := by
        have : s.room.1.d.logs ≤ s.d.logs + 1 := s.room_logs
        omega
      refine writeF_ok (f := ⟨n, (s.d.len n).1, 0, [], false, [], 0⟩) hg2 h2.disk h2.pool.head rfl hA (by simp) (fun b hb q => by have := hfp b hb; have := hoff1 b (.inl q); omega) hlg (fun hne D3 H3 a3 S3 => ?_) (fun he D3 H3 H4 a3 S3 hf4 m4 z4 => ?_)
      · have hne' : (s.room.1.d.write n ((s.d.len n).1 : Int) (sealP 0 [])).2 ≠ 0 := hne
        rw [if_pos hne'] at hK
        obtain ⟨q1, q2⟩ := h2.stepD hg2 a3 S3
        refine br_t (by simpa using hne) ?_
        exact fail _ x1 D3 H3 _ q1 (S2.trans q2) hK
      · have he' : ¬ (s.room.1.d.write n ((s.d.len n).1 : Int) (sealP 0 [])).2 ≠ 0 := fun q => q he
        rw [if_neg he'] at hK
        obtain ⟨q1, q2⟩ := h2.stepD hg2 a3 S3
        refine br_f rfl ?_
        have hl4 : ∀ b, b < H1.size → H4[b]? = H3[b]? := fun b hb => m4.same b (by have := e2.size; have := S3.mod.size; omega) (by show b ≠ H1.size; omega)
        have hin : ∀ b, D3 b ∨ x1.all p b → b ≠ H1.size := by
          intro b q e
          subst e
          rcases q with q | q
          · rcases S3.own _ q with r | r
            · have := hoff1 _ (.inl r); omega
            · have := e2.size; omega
          · have := hoff1 _ (.inr q); omega
        have q4 : PoolD x1 D3 H4 p dp (s.room.1.setD (s.room.1.d.write n ((s.d.len n).1 : Int) (sealP 0 [])).1) :=
          ⟨q1.pool.keep fun b hb hl => m4.same b hl (hin b (.inr hb)), q1.disk.keep fun b hb hl => m4.same b hl (hin b (.inl hb)), q1.apart, q1.glob⟩
        have S4 : Step (fun b => D b ∨ x.all p b) (fun b => D3 b ∨ x1.all p b) H H4 := by
          have S3' := S2.trans q2
          refine ⟨S3'.mod.trans' m4 fun b hb q => ?_, S3'.own⟩
          have : b = H1.size := q
          have := S1.mod.size; omega
        have hg4 : Gl H4 := hd.gl hg S4.mod
        have hNew : NewAt x1 D3 H4 p ⟨H1.size, Sl.mk none 0 0⟩ ⟨n, (s.d.len n).1, 0, [], false, [], 0⟩ := by
          refine ⟨hf4, fun b hb => ?_⟩
          have eb := hfp b hb
          refine ⟨fun q => hin b (.inl q) eb, fun q => hin b (.inr q) eb, fun q => ?_⟩
          have := hg1.lt; omega
        have hrs := s.room_same
        have hrw := hd.pool.wf.roomed
        have hle := Dk.len_le hd.disk.wf n
        obtain ⟨f, hf⟩ : ∃ f : Fr, f = ⟨n, (s.d.len n).1, 0, [], false, [], 0⟩ := ⟨_, rfl⟩
        rw [← hf] at hNew hK
        have c1 : f.name = n := by rw [hf]
        have c2 : f.page = (s.d.len n).1 := by rw [hf]
        have c3 : f.b = [] := by rw [hf]
        have c4 : f.pins = [] := by rw [hf]
        have c5 : f.left = 0 := by rw [hf]
        have d1 : (s.room.1.setD (s.room.1.d.write n ((s.d.len n).1 : Int) (sealP 0 [])).1).fs.length < (s.room.1.setD (s.room.1.d.write n ((s.d.len n).1 : Int) (sealP 0 [])).1).most := by
          show _ < s.room.1.most; rw [hrs.1]; exact hrw.2 hr'
        have d2 : (s.room.1.setD (s.room.1.d.write n ((s.d.len n).1 : Int) (sealP 0 [])).1).next < 9223372036854775807 := by
          show s.room.1.next < _; rw [hrs.2.1]; exact hnx
        have d3 : (s.room.1.setD (s.room.1.d.write n ((s.d.len n).1 : Int) (sealP 0 [])).1).find f.name f.page = none := by
          rw [c1, c2]; exact Pl.room_find (hfit.new hz')
        have d4 : f.b.length ≤ 504 := by rw [c3]; exact Nat.zero_le _
        have d5 : f.page < 1048577 := by rw [c2]; omega
        have d6 : f.name.size ≤ 9223372036854775807 := by rw [c1]; exact hn
        show pool_Pool_take.sp (at0 p) (at0 H1.size) H4 (fun r H7 => K (r, ((s.d.len n).1 : Int), 0) H7)
        refine take_ok (g := ⟨H1.size, Sl.mk none 0 0⟩) (K := fun r H7 => K (r, ((s.d.len n).1 : Int), 0) H7) hg4 q4 hNew d1 d2 d3 d4 d5 d6 c4 c5 fun x5 H5 h5 S5 => ?_
        have S45 : Step (fun b => D b ∨ x.all p b) (fun b => D3 b ∨ x5.all p b) H H5 := by
          refine ⟨S4.mod.trans' S5.mod fun b hb q => ?_, fun b hb => ?_⟩
          · rcases q with q | q
            · exact (S4.own b q).resolve_right (by omega)
            · have := hfp b q; have := S1.mod.size; omega
          · rcases S5.own b hb with q | q
            · rcases q with q | q
              · exact S4.own b q
              · have := hfp b q; have := S1.mod.size; exact .inr (by omega)
            · exact .inr (Nat.le_trans S4.mod.size q)
        obtain ⟨F', t1, t2⟩ := h5.out (x := x) (D := D) (F := F) (H := H) hF S45
        exact hK F' H5 t1 t2
    · have hr' : s.room.2 ≠ 0 := by simpa using hr
      rw [if_pos hr'] at hK
      refine br_t (by simpa using hr') ?_
      exact fail _ x1 D1 H2 _ h2 S2 hK
  · have hz' : (s.d.len n).2 ≠ 0 := by simpa using hz
    rw [if_pos hz'] at hK
    refine newC_rowT fun H2 s2 r2 e2 => ?_
    refine br_f hz ?_
    have ht : ((s.d.len n).2 != 0) = true := by simpa using hz'
    refine br_t ht ?_
    exact fail _ x D H2 s (hd.ext e2) (Step.ext e2) hK

end Go.Proofs.YtbhddkmfhampbaaDoor
