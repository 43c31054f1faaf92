/-
  The pool's statements: a step's bytes; a pool that is not there.
-/
import Derived.Test.YtbhddkmfhampbaaDoorPpw
namespace Go.Proofs.YtbhddkmfhampbaaDoor
open Go.MapKept

theorem ofNat_u8 {x : Int} (h : 0 ≤ x ∧ x < 256) : ((UInt8.ofNat x.toNat).toNat : Int) = x := by
  rw [UInt8.toNat_ofNat']; omega

theorem pfill_loop {b : Sl} {n : Nat} {p : Nat} {f : UInt8} {cs : Array Value} {H : Heap} {K : Heap → Prop} (h : Owns H 0 ty_uint8 1 b (pgV (List.replicate n 0))) (hn : n < 4611686018427387904) (hp : RowT H p ty_fathomlaw03_Step cs) (hc : cs[4]? = some (.int .u8 (f.toNat : Int)))
    (hK : ∀ H', Owns H' 0 ty_uint8 1 b (pgV (List.replicate n f)) → Mod (ownB b) H H' → K H') :
    LoopVC Int (0 : Int) H fun next i H3 => br (decide (i < (b.n : Int))) (ld (cInt .u8) H3 (Addr.add ⟨p, 0, none⟩ 4) fun (x_8 : Int) => optK b.a fun a => (0 ≤ i ∧ i < (b.n : Int)) ∧ st H3 (a.add (i.toNat * 1)) (.int .u8 x_8) fun H4 => next (IntKind.i64.wrap (i + (1 : Int))) H4) (K H3) := by
  have hbn : b.n = n := by have := h.1; simp [pgV] at this; omega
  have hpb : ∀ q, ownB b q → q ≠ p := fun q hq e => by
    obtain ⟨c, r⟩ := h.obj q hq
    rw [e] at r
    exact absurd (cells_ty hp r) (by decide)
  refine loop_upto n (fun k i H3 => i = (k : Int) ∧ Owns H3 0 ty_uint8 1 b (pgV (List.replicate k f ++ List.replicate (n - k) 0)) ∧ Mod (ownB b) H H3) ⟨rfl, by simpa using h, .refl _ _⟩ ?_
  rintro k _ H3 next hk ⟨rfl, o, m⟩ hnext
  refine br_mk (fun hc' => ?_) (fun hc' => ?_)
  · have hlt : k < n := by rw [hbn] at hc'; simpa using hc'
    have p3 : RowT H3 p ty_fathomlaw03_Step cs := hp.mod m (fun hb => hpb _ hb rfl)
    refine p3.ld (c := cInt .u8) (i := 4) (x := (f.toNat : Int)) hc ?_
    refine o.st (by omega) (by omega) rfl fun H4 o4 m4 s4 => ?_
    refine hnext hlt _ _ ⟨succ64 k (by omega), ?_, m.trans m4⟩
    rw [Int.toNat_natCast, pgV_set] at o4
    have e : (List.replicate k f ++ List.replicate (n - k) (0 : UInt8)).set k f = List.replicate (k + 1) f ++ List.replicate (n - (k + 1)) 0 := by
      rw [List.set_append_right _ _ (by simp)]
      simp only [List.length_replicate, Nat.sub_self]
      rw [show n - k = (n - (k + 1)) + 1 by omega, List.replicate_succ, List.set_cons_zero, List.replicate_succ', List.append_assoc]
      rfl
    rw [e] at o4
    exact o4
  · have hge : k = n := by rw [hbn] at hc'; simp at hc'; omega
    subst hge
    simp only [Nat.sub_self, List.replicate_zero, List.append_nil] at o
    exact hK H3 o m

/-- What a step puts. -/
def stepB (page fill : Int) : List UInt8 := List.replicate (page.emod 600).toNat (UInt8.ofNat fill.toNat)
theorem pbytes_ok {x x2 x3 x4 : Int} {x1 : ByteArray} {H : Heap} {K : Sl → Heap → Prop} (h4 : 0 ≤ x4 ∧ x4 < 256)
    (hK : ∀ b H', SlE EB ty_uint8 H' b (stepB x2 x4) → Ext H H' → (∀ q, ownB b q → H.size ≤ q) → K b H') : fathomlaw03_Step_bytes.sp x x1 x2 x3 x4 H K := by
  refine fathomlaw03_Step_bytes.of ?_
  unfold fathomlaw03_Step_bytes.vc
  refine newC_rowT fun H1 s1 r1 m1 => ?_
  refine r1.ld (c := cInt .i64) (i := 2) (x := x2) rfl ?_
  refine PickN_ok (by decide) ?_
  rw [if_neg (by decide)]
  have h1 := Int.emod_nonneg x2 (show (600 : Int) ≠ 0 by decide)
  have h2 := Int.emod_lt_of_pos x2 (show (0 : Int) < 600 by decide)
  have e0 : x2 % 600 = x2.emod 600 := rfl
  rw [e0] at h1 h2
  refine elByte1.make (base := 0) h1 (Int.le_refl _) (by omega) (by omega) (Nat.zero_le _) fun b H2 hn o e f _ => ?_
  have hf := ofNat_u8 h4
  have hcell : (#[Value.int .i64 x, .string x1, .int .i64 x2, .int .i64 x3, .int .u8 x4] : Array Value)[4]? = some (.int .u8 ((UInt8.ofNat x4.toNat).toNat : Int)) := by rw [hf]; rfl
  refine pfill_loop (n := (x2.emod 600).toNat) (f := UInt8.ofNat x4.toNat) (by rw [pgV_rep]; exact o) (by omega) (r1.ext e) hcell fun H3 o3 m3 => ?_
  refine hK b H3 (SlB_of o3) ⟨?_, fun q hq _ => (m3.same q (by have := e.size; omega) fun hh => ?_).trans ((e.same q (by omega) id).trans (m1.same q hq id))⟩ (fun q hq => by have := f q hq; omega)
  · have := e.size; have := m3.size; omega
  · have := f q hh; omega

theorem pPin_none {n : ByteArray} {k : Int} {H : Heap} {K : (Int × Int) → Heap → Prop} (hK : K (0, 1) H) : pool_Pool_Pin.sp none n k H K := by
  refine pool_Pool_Pin.of ?_
  unfold pool_Pool_Pin.vc
  exact ready_pool_none (br_t rfl hK)
theorem pFresh_none {n : ByteArray} {H : Heap} {K : (Int × Int × Int) → Heap → Prop} (hK : K (0, 0, 1) H) : pool_Pool_Fresh.sp none n H K := by
  refine pool_Pool_Fresh.of ?_
  unfold pool_Pool_Fresh.vc
  exact ready_pool_none (br_t rfl hK)
theorem pheld_none {k : Int} {H : Heap} {K : (Option Addr × Int) → Heap → Prop} (hK : K (none, 1) H) : pool_Pool_held.sp none k H K := by
  refine pool_Pool_held.of ?_
  unfold pool_Pool_held.vc
  exact ready_pool_none (br_t rfl hK)
theorem pGet_none {k : Int} {H : Heap} {K : (Int × Sl × Int) → Heap → Prop} (hK : K (0, Sl.mk none 0 0, 1) H) : pool_Pool_Get.sp none k H K := by
  refine pool_Pool_Get.of ?_
  unfold pool_Pool_Get.vc
  exact pheld_none (br_t rfl hK)
theorem pPut_none {k kd : Int} {b : Sl} {H : Heap} {K : Int → Heap → Prop} (hK : K 1 H) : pool_Pool_Put.sp none k kd b H K := by
  refine pool_Pool_Put.of ?_
  unfold pool_Pool_Put.vc
  exact pheld_none (br_t rfl hK)
theorem pUnpin_none {k : Int} {H : Heap} {K : Int → Heap → Prop} (hK : K 1 H) : pool_Pool_Unpin.sp none k H K := by
  refine pool_Pool_Unpin.of ?_
  unfold pool_Pool_Unpin.vc
  exact pheld_none (br_t rfl hK)
theorem pFlush_none {n : ByteArray} {H : Heap} {K : Int → Heap → Prop} (hK : K 1 H) : pool_Pool_Flush.sp none n H K := by
  refine pool_Pool_Flush.of ?_
  unfold pool_Pool_Flush.vc
  exact ready_pool_none (br_t rfl hK)
theorem pDrop_none {n : ByteArray} {H : Heap} {K : Int → Heap → Prop} (hK : K 1 H) : pool_Pool_Drop.sp none n H K := by
  refine pool_Pool_Drop.of ?_
  unfold pool_Pool_Drop.vc
  exact ready_pool_none (br_t rfl hK)
theorem pResident_none {H : Heap} {K : Int → Heap → Prop} (hK : K 0 H) : pool_Pool_Resident.sp none H K := by
  refine pool_Pool_Resident.of ?_
  unfold pool_Pool_Resident.vc
  exact br_t rfl hK
theorem pPinned_none {H : Heap} {K : Int → Heap → Prop} (hK : K 0 H) : pool_Pool_Pinned.sp none H K := by
  refine pool_Pool_Pinned.of ?_
  unfold pool_Pool_Pinned.vc
  exact br_f rfl hK
theorem pPeak_none {H : Heap} {K : Int → Heap → Prop} (hK : K 0 H) : pool_Pool_Peak.sp none H K := by
  refine pool_Pool_Peak.of ?_
  unfold pool_Pool_Peak.vc
  exact br_t rfl hK
theorem pFrames_none {H : Heap} {K : Int → Heap → Prop} (hK : K 0 H) : pool_Pool_Frames.sp none H K := by
  refine pool_Pool_Frames.of ?_
  unfold pool_Pool_Frames.vc
  exact br_t rfl hK
theorem pDisk_none {H : Heap} {K : Option Addr → Heap → Prop} (hK : K none H) : pool_Pool_Disk.sp none H K := by
  refine pool_Pool_Disk.of ?_
  unfold pool_Pool_Disk.vc
  exact br_t rfl hK

theorem PoolNone_ok {x x2 x3 x4 frames : Int} {x1 : ByteArray} {H : Heap} {K : Bool → Heap → Prop} (hg : Gl H) (h4 : 0 ≤ x4 ∧ x4 < 256) (hK : ∀ B, Ext H B → K true B) : fathomlaw03_PoolNone.sp x x1 x2 x3 x4 frames H K := by
  refine fathomlaw03_PoolNone.of ?_
  unfold fathomlaw03_PoolNone.vc
  refine newC_rowT fun H1 s1 r1 m1 => ?_
  refine r1.ld (c := cStr) (i := 1) (x := x1) rfl ?_
  refine r1.ld (c := cInt .i64) (i := 2) (x := x2) rfl ?_
  refine pPin_none ?_
  refine r1.ld (c := cStr) (i := 1) (x := x1) rfl ?_
  refine pFresh_none ?_
  refine r1.ld (c := cInt .i64) (i := 3) (x := x3) rfl ?_
  refine pGet_none ?_
  refine PoolNew_nil ?_
  refine br_t rfl (br_t rfl ?_)
  refine pResident_none (br_t rfl ?_)
  refine pPinned_none (br_t rfl ?_)
  refine pPeak_none (br_t rfl ?_)
  refine pFrames_none (br_t rfl ?_)
  refine pDisk_none ?_
  refine ⟨fun A => RowT A H.size ty_fathomlaw03_Step #[(.int .i64 x), (.string x1), (.int .i64 x2), (.int .i64 x3), (.int .u8 x4)], r1, ?_⟩
  refine br_t rfl ?_
  refine ⟨x3, fun A hA => by rw [add_lit0]; exact hA.cell rfl, ?_⟩
  refine ⟨x4, fun A hA => by rw [add_lit0]; exact hA.cell rfl, ?_⟩
  refine RowT.ldA (x := (x, x1, x2, x3, x4)) r1 rfl rfl ?_
  refine pbytes_ok h4 fun b H2 o2 m2 f2 => ?_
  have r2 := r1.ext m2
  refine ⟨r2, pPut_none (br_t rfl ?_)⟩
  refine r2.ld (c := cInt .i64) (i := 3) (x := x3) rfl ?_
  refine pUnpin_none (br_t rfl ?_)
  refine r2.ld (c := cStr) (i := 1) (x := x1) rfl ?_
  refine pFlush_none (br_t rfl ?_)
  refine r2.ld (c := cStr) (i := 1) (x := x1) rfl ?_
  refine pDrop_none (br_t rfl ?_)
  exact pworks_ok (hg.mod (m1.trans m2) id) fun H3 m3 => hK H3 ((m1.trans m2).trans m3)

end Go.Proofs.YtbhddkmfhampbaaDoor
