/-
  The pool: Drop.
-/
import Derived.Test.YtbhddkmfhampbaaDoorPkj
namespace Go.Proofs.YtbhddkmfhampbaaDoor
open Go.MapKept

theorem Drop1_ok {H : Heap} {z : FZ} {K : Bool → Heap → Prop} (hA : FrAt H z.2 z.1) (hK : K (!z.1.pins.isEmpty) H) : pool_Pool_Drop_c1.sp (at0 z.2.p) H K := by
  refine pool_Pool_Drop_c1.of ?_
  unfold pool_Pool_Drop_c1.vc
  simp only [optK_eq]
  refine hA.row.ld (c := cInt .i64) (i := 5) (x := (z.1.pins.length : Int)) rfl ?_
  have e : decide ((z.1.pins.length : Int) > 0) = !z.1.pins.isEmpty := by
    cases z.1.pins with
    | nil => rfl
    | cons a l => simp
  rw [e]; exact hK
theorem IndexDrop_ok {H : Heap} {s : Sl} {l : List FZ} {K : Int → Heap → Prop} (h : SlE EPtr ty_ptr_pool_frame H s (l.map fun z => z.2.p)) (hA : ∀ z ∈ l, FrAt H z.2 z.1) (hl : l.length ≤ 1048576)
    (hK : ∀ r : Int, decide (r ≥ 0) = (l.any fun z => !z.1.pins.isEmpty) → K r H) : slices_IndexFunc_sl_ptr_pool_frame_ptr_pool_frame.sp s H K := by
  refine slices_IndexFunc_sl_ptr_pool_frame_ptr_pool_frame.of ?_
  unfold slices_IndexFunc_sl_ptr_pool_frame_ptr_pool_frame.vc
  have hn := h.n (by decide)
  rw [List.length_map] at hn
  refine loop_upto l.length (fun k x H1 => H = H1 ∧ x = (k : Int) ∧ ∀ z ∈ l.take k, z.1.pins.isEmpty = true) ⟨rfl, rfl, by simp⟩ ?_
  rintro k _ _ next hk ⟨rfl, rfl, hf⟩ hnext
  refine br_mk (fun hc => ?_) (fun hc => ?_)
  · have hlt : k < l.length := by rw [hn] at hc; simpa using hc
    refine ptr_ld h (i := k) (q := l[k].2.p) (by simp [hlt]) rfl fun ad ha => ?_
    refine Drop1_ok (hA _ (List.getElem_mem hlt)) ?_
    cases hs : l[k].1.pins.isEmpty with
    | false =>
      refine br_t rfl (hK _ ?_)
      rw [decide_eq_true (by omega)]
      exact (List.any_eq_true.2 ⟨l[k], List.getElem_mem hlt, by rw [hs]; rfl⟩).symm
    | true =>
      refine br_f rfl (hnext hlt _ _ ⟨rfl, succ64 k (by omega), ?_⟩)
      intro z hz
      rw [List.take_succ_eq_append_getElem hlt] at hz
      rcases List.mem_append.1 hz with q | q
      · exact hf z q
      · simp at q; subst q; exact hs
  · have hge : k = l.length := by rw [hn] at hc; simp at hc; omega
    rw [hge, List.take_of_length_le (Nat.le_refl _)] at hf
    refine hK _ ?_
    have : (l.any fun z => !z.1.pins.isEmpty) = false := by
      rw [List.any_eq_false]
      intro z hz
      rw [hf z hz]; simp
    rw [this]; rfl
theorem ContainsDrop_ok {H : Heap} {s : Sl} {l : List FZ} {K : Bool → Heap → Prop} (h : SlE EPtr ty_ptr_pool_frame H s (l.map fun z => z.2.p)) (hA : ∀ z ∈ l, FrAt H z.2 z.1) (hl : l.length ≤ 1048576)
    (hK : K (l.any fun z => !z.1.pins.isEmpty) H) : slices_ContainsFunc_sl_ptr_pool_frame_ptr_pool_frame.sp s H K := by
  refine slices_ContainsFunc_sl_ptr_pool_frame_ptr_pool_frame.of ?_
  unfold slices_ContainsFunc_sl_ptr_pool_frame_ptr_pool_frame.vc
  exact IndexDrop_ok h hA hl fun r hr => by rw [hr]; exact hK

theorem erase_filter : ∀ {l : List FZ} {i : Nat} {a : FZ}, (∀ (i j : Nat) (z z' : FZ), l[i]? = some z → l[j]? = some z' → z.2.p = z'.2.p → i = j) → l[i]? = some a → l.eraseIdx i = l.filter fun z => !(z.2.p == a.2.p)
  | [], i, a, _, h => by simp at h
  | b :: l, 0, a, hu, h => by
    simp at h; subst h
    rw [List.eraseIdx_cons_zero, List.filter_cons, if_neg (by simp)]
    refine (List.filter_eq_self.2 fun z hz => ?_).symm
    obtain ⟨j, hj⟩ := List.mem_iff_getElem?.1 hz
    have : z.2.p ≠ b.2.p := fun e => by have := hu (j + 1) 0 z b (by simpa using hj) rfl e; omega
    simpa using this
  | b :: l, i + 1, a, hu, h => by
    simp only [List.getElem?_cons_succ] at h
    have hne : b.2.p ≠ a.2.p := fun e => by have := hu 0 (i + 1) b a rfl (by simpa using h) e; omega
    rw [List.eraseIdx_cons_succ, List.filter_cons, if_pos (by simpa using hne)]
    rw [erase_filter (fun i j z z' h1 h2 e => by have := hu (i + 1) (j + 1) z z' (by simpa using h1) (by simpa using h2) e; omega) h]

/-- The frames that are left when some were forgotten. -/
def leftZ (zs w : List FZ) : List FZ := zs.filter fun z => !(w.any fun u => u.2.p == z.2.p)
theorem leftZ_snoc (zs w : List FZ) (a : FZ) : leftZ zs (w ++ [a]) = (leftZ zs w).filter fun z => !(z.2.p == a.2.p) := by
  unfold leftZ
  rw [List.filter_filter]
  refine List.filter_congr fun z _ => ?_
  rw [List.any_append, List.any_cons, List.any_nil, Bool.or_false, Bool.not_or, Bool.and_comm]
  congr 2
  exact Bool.beq_comm

theorem Drop_ok {F : Nat → Prop} {H : Heap} {p dp : Nat} {s : Pl} {n : ByteArray} {K : Int → Heap → Prop} (hg : Gl H) (h : PoolAt F H p dp s)
    (hK : ∀ F' H', PoolAt F' H' p dp (s.dropF n).1 → Step F F' H H' → K (s.dropF n).2 H') : pool_Pool_Drop.sp (at0 p) n H K := by
  have h00 := h
  obtain ⟨x, D, hd, hF⟩ := h
  refine pool_Pool_Drop.of ?_
  unfold pool_Pool_Drop.vc
  simp only [optK_eq]
  refine ready_pool hd.pool ?_
  unfold Pl.dropF at hK
  refine br_mk (fun hw => ?_) (fun hw => ?_)
  · have hw' : s.wrong ≠ 0 := by simpa using hw
    rw [if_pos hw'] at hK
    exact hK F H h00 (.refl _ _)
  have hw' : ¬ s.wrong ≠ 0 := by simpa using hw
  rw [if_neg hw'] at hK
  refine hd.pool.head.ld (c := cPtr) (i := 0) (x := at0 dp) rfl ?_
  refine Len_ok hd.disk ?_
  have fin : ∀ (e : Int) (x' : PG) (D' : Nat → Prop) (H1 : Heap) (t : Pl), PoolD x' D' H1 p dp t → Step (fun b => D b ∨ x.all p b) (fun b => D' b ∨ x'.all p b) H H1 → (∀ F' H', PoolAt F' H' p dp (Pl.out (t, e)).1 → Step F F' H H' → K (Pl.out (t, e)).2 H') →
      pool_Pool_met.sp (at0 p) e H1 fun r H2 => K r H2 := by
    intro e x' D' H1 t h1 S1 hk
    refine met_ok (hd.gl hg S1.mod) h1 fun H2 h2 S2 => ?_
    obtain ⟨F', q1, q2⟩ := h2.out (x := x) (D := D) (F := F) (H := H) hF (S1.trans S2)
    exact hk F' H2 q1 q2
  refine br_mk (fun hz => ?_) (fun hz => ?_)
  · have hz' : (s.d.len n).2 ≠ 0 := by simpa using hz
    rw [if_pos hz'] at hK
    exact fin _ x D H s hd (.refl _ _) hK
  have hz' : ¬ (s.d.len n).2 ≠ 0 := by simpa using hz
  rw [if_neg hz'] at hK
  refine of_ok hd.pool fun sl H1 o1 e1 f1 => ?_
  have hd1 := hd.ext e1
  have hlen1 := o1.n (by decide)
  rw [List.length_map] at hlen1
  have hll : (x.of n).length ≤ 4096 := by
    have h1 := PG.of_pages hd.pool.fs n
    have h2 := s.pagesOf_length n
    rw [← h1, List.length_map] at h2
    have := hd.pool.wf.len; have := hd.pool.wf.most; omega
  have hany : ((x.of n).any fun z => !z.1.pins.isEmpty) = s.fs.any (fun f => f.name.toList == n.toList && !f.pins.isEmpty) := by
    rw [Bool.eq_iff_iff, List.any_eq_true, List.any_eq_true]
    constructor
    · rintro ⟨z, hz, e⟩
      obtain ⟨q1, q2⟩ := PG.of_mem.1 hz
      refine ⟨z.1, by rw [hd.pool.fs]; exact List.mem_map.2 ⟨z, q1, rfl⟩, ?_⟩
      rw [q2, e]; simp
    · rintro ⟨f, hf, e⟩
      rw [hd.pool.fs] at hf
      obtain ⟨z, hz, rfl⟩ := List.mem_map.1 hf
      simp only [Bool.and_eq_true] at e
      exact ⟨z, PG.of_mem.2 ⟨hz, ba_eq (by simpa using e.1)⟩, e.2⟩
  refine ContainsDrop_ok o1 (fun z hz => hd1.pool.frames.each z (PG.of_mem.1 hz).1) (by omega) ?_
  rw [hany]
  cases hb : s.fs.any (fun f => f.name.toList == n.toList && !f.pins.isEmpty) with
  | true =>
    rw [hb, if_pos rfl] at hK
    obtain ⟨F', q1, q2⟩ := hd1.out (x := x) (D := D) (F := F) (H := H) hF (Step.ext e1)
    exact br_t rfl (hK F' H1 q1 q2)
  | false =>
    rw [hb, if_neg (by simp)] at hK
    refine br_f rfl ?_
    have hfree : ∀ z ∈ x.of n, z.1.pins = [] := by
      intro z hz
      rw [hb] at hany
      have := (List.any_eq_false.1 hany) z hz
      simpa using this
    refine loop_upto (x.of n).length (fun k z A => z = (k : Int) ∧ ∃ y, PoolD y D A p dp { s with fs := (leftZ x.zs ((x.of n).take k)).map (·.1) } ∧ y.zs = leftZ x.zs ((x.of n).take k) ∧ Step (fun b => D b ∨ x.all p b) (fun b => D b ∨ y.all p b) H1 A ∧ SlE EPtr ty_ptr_pool_frame A sl ((x.of n).map fun z => z.2.p)) ⟨rfl, x, ?_, ?_, .refl _ _, o1⟩ ?_
    · have e : (leftZ x.zs ((x.of n).take 0)).map (·.1) = s.fs := by
        rw [hd.pool.fs]; unfold leftZ PG.fs
        rw [List.filter_eq_self.2 (fun _ _ => by simp)]
      rw [e]; exact hd1
    · unfold leftZ
      rw [List.filter_eq_self.2 (fun _ _ => by simp)]
    rintro k _ A next hk ⟨rfl, y, hdA, hy, SA, oA⟩ hnext
    have hgA : Gl A := hd1.gl (hg.mod e1 id) SA.mod
    refine br_mk (fun hc => ?_) (fun hc => ?_)
    · have hlt : k < (x.of n).length := by rw [hlen1] at hc; simpa using hc
      have hzk : (x.of n)[k] ∈ x.of n := List.getElem_mem hlt
      obtain ⟨hzx, hzn⟩ := PG.of_mem.1 hzk
      have hzy : (x.of n)[k] ∈ y.zs := by
        rw [hy]
        unfold leftZ
        rw [List.mem_filter]
        refine ⟨hzx, ?_⟩
        rw [Bool.not_eq_true', List.any_eq_false]
        intro u hu e
        obtain ⟨j, hj, rfl⟩ := List.getElem_of_mem hu
        simp only [List.length_take] at hj
        simp only [List.getElem_take, beq_iff_eq] at e
        have hjm : (x.of n)[j] ∈ x.of n := List.getElem_mem (by omega)
        have e2 := hd.pool.frames.ptr (PG.of_mem.1 hjm).1 hzx e
        have hnd : (x.of n).Nodup := by
          have hz : x.zs.Nodup := by
            have := hd.pool.wf.keys
            rw [hd.pool.fs] at this
            unfold PG.fs at this
            rw [List.map_map] at this
            exact nodup_of_map _ this
          unfold PG.of
          exact (List.mergeSort_perm _ _).symm.nodup (hz.filter _)
        have := (List.getElem_inj hnd).1 e2
        omega
      obtain ⟨i, hi⟩ := List.mem_iff_getElem?.1 hzy
      refine ptr_ld oA (i := k) (q := (x.of n)[k].2.p) (by simp [hlt]) rfl fun ad ha => ?_
      refine hdA.pool.head.ld (c := cMap) (i := 2) (x := some y.mf) rfl ?_
      simp only [optK_eq]
      refine FrAt.at_ld (hdA.pool.frames.each _ hzy) ?_
      refine del_ok hgA hdA hi (hfree _ hzk) fun ef' v A2 h2 S2 m2 => ?_
      have e2 : y.zs.eraseIdx i = leftZ x.zs ((x.of n).take (k + 1)) := by
        rw [List.take_succ_eq_append_getElem hlt, leftZ_snoc, ← hy]
        refine erase_filter (fun a c z z' q1 q2 e => ?_) hi
        by_cases hac : a = c
        · exact hac
        · exact absurd (.inl e) (hdA.pool.frames.apart a c z z' q1 q2 hac z.2.p (.inl rfl))
      refine hnext hlt _ _ ⟨succ64 k (by omega), _, ?_, e2, SA.trans S2, ?_⟩
      · have e3 : (Pl.drop { s with fs := (leftZ x.zs ((x.of n).take k)).map (·.1) } i) = { s with fs := (leftZ x.zs ((x.of n).take (k + 1))).map (·.1) } := by
          unfold Pl.drop
          simp only
          rw [← map_erase, ← e2, hy]
        rw [← e3]; exact h2
      · refine oA.keep fun b hb hl => m2.same b hl ?_
        intro e
        obtain ⟨c, q⟩ := oA.obj b hb
        rw [e, hdA.pool.frames.fmap.obj] at q; cases q
    · have hge : k = (x.of n).length := by rw [hlen1] at hc; simp at hc; omega
      have e4 : ({ s with fs := (leftZ x.zs ((x.of n).take k)).map (·.1) } : Pl) = s.forget n := by
        unfold Pl.forget
        rw [hge, List.take_of_length_le (Nat.le_refl _), hd.pool.fs]
        unfold leftZ PG.fs
        rw [List.filter_map]
        congr 2
        refine List.filter_congr fun z hz => ?_
        show (!_) = !(z.1.name.toList == n.toList)
        congr 1
        rw [Bool.eq_iff_iff, List.any_eq_true, beq_iff_eq]
        constructor
        · rintro ⟨u, hu, e⟩
          obtain ⟨q1, q2⟩ := PG.of_mem.1 hu
          have := hd.pool.frames.ptr q1 hz (by simpa using e)
          rw [← this, q2]
        · intro e
          exact ⟨z, PG.of_mem.2 ⟨hz, ba_eq e⟩, by simp⟩
      rw [e4] at hdA
      refine hdA.pool.head.ld (c := cPtr) (i := 0) (x := at0 dp) rfl ?_
      refine Remove_ok hdA.disk fun D2 H2 a2 S2 => ?_
      obtain ⟨q1, q2⟩ := hdA.stepD hgA a2 S2
      exact fin _ y D2 H2 _ q1 ((SA.trans q2).ahead e1) hK

end Go.Proofs.YtbhddkmfhampbaaDoor
